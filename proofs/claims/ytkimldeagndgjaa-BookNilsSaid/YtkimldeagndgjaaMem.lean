/- Words for memory: blocks that are known whole, rows of structs, what stays as it was. No program stands in this text. -/
import Derived.WalkKit
import Derived.Deep.QuietTactic
import Derived.BigQuiet
import Derived.Deep.Draws
import Derived.KernelRfl
import Derived.Lib.Hide
import Derived.WalkLawsBesides
import Derived.WalkSpells
namespace Go.Proofs.Ytkimldeagndgjaa
set_option linter.unusedVariables false
set_option linter.unusedSimpArgs false
open Go.RowKit

/-- Block g is just the cells cs of element type t, none of them frozen. -/
def Blk (w : World) (g : Nat) (t : TypeId) (cs : Array Value) : Prop := w.heap[g]? = some (.cells cs t (0, 0))

section
variable {w w' : World} {g : Nat} {t : TypeId} {cs : Array Value}
theorem Blk.lt (h : Blk w g t cs) : g < w.heap.size := by
  rcases Nat.lt_or_ge g w.heap.size with hl | hl
  · exact hl
  · exfalso; unfold Blk at h; rw [Array.getElem?_eq_none hl] at h; cases h
theorem Blk.cell (h : Blk w g t cs) (i : Nat) : w.cell? ⟨g, i, none⟩ = cs[i]? := cell_of_row w g i cs t (0, 0) h
theorem Blk.frozen (h : Blk w g t cs) (i : Nat) : w.frozen? ⟨g, i, none⟩ = false := by
  unfold Blk at h; simp [World.frozen?, h]
theorem Blk.new (w : World) (t : TypeId) (cs : Array Value) : Blk (w.alloc (.cells cs t)) w.heap.size t cs := heap_alloc_new w _
theorem Blk.newAt {o : Obj} (h : o = .cells cs t) (hg : g = w.heap.size) : Blk (w.alloc o) g t cs := by subst h; subst hg; exact heap_alloc_new w _
theorem Blk.drew (h : Blk w g t cs) : Blk w.drew g t cs := h
theorem Blk.drewN (h : Blk w g t cs) (n : Nat) : Blk (w.drewN n) g t cs := h
theorem Blk.alloc (h : Blk w g t cs) (o : Obj) : Blk (w.alloc o) g t cs := (Below.heap_alloc w o g h.lt).trans h
theorem Blk.same (h : Blk w g t cs) (i : Nat) (u : Value) : Blk (w.setCell ⟨g, i, none⟩ u) g t (cs.setIfInBounds i u) := by
  unfold Blk at h ⊢; simp [World.setCell, Array.getElem?_modify, h]
theorem Blk.far (h : Blk w g t cs) {p : Addr} (hp : g ≠ p.block) (u : Value) : Blk (w.setCell p u) g t cs := (Below.heap_setCell w p u g hp).trans h
theorem Blk.off {b o : Nat} {u : Value} (hp : g ≠ b) (h : Blk w g t cs) : Blk (w.setCell ⟨b, o, none⟩ u) g t cs := h.far hp u
theorem Blk.cast {cs' : Array Value} (h : Blk w g t cs) (e : cs = cs') : Blk w g t cs' := e ▸ h
theorem Blk.below {B : Nat} (h : Blk w g t cs) (hb : Below B w w') (hg : g < B) : Blk w' g t cs := (hb.block g hg).trans h
theorem Blk.ne {g' : Nat} {t' : TypeId} {cs' : Array Value} (h : Blk w g t cs) (h' : Blk w g' t' cs') (hne : t ≠ t') : g ≠ g' := by
  rintro rfl
  unfold Blk at h h'
  rw [h] at h'
  injection h' with h'
  injection h' with _ ht
  exact hne ht
end

/-- A row of n structs of m cells each, written out by cells. -/
def grid (n m : Nat) (f : Nat → Nat → Value) : Array Value := Array.ofFn (n := n * m) fun k => f (k.val / m) (k.val % m)
theorem grid_size (n m : Nat) (f : Nat → Nat → Value) : (grid n m f).size = n * m := by simp [grid]
theorem grid_get {n m : Nat} {f : Nat → Nat → Value} {i j : Nat} (hi : i < n) (hj : j < m) : (grid n m f)[i * m + j]? = some (f i j) := by
  have hlt : i * m + j < n * m := by
    have h1 : i * m + m ≤ n * m := by rw [← Nat.succ_mul]; exact Nat.mul_le_mul_right m hi
    omega
  have h1 : (i * m + j) / m = i := by
    rw [Nat.mul_comm, Nat.mul_add_div (by omega), Nat.div_eq_of_lt hj, Nat.add_zero]
  have h2 : (i * m + j) % m = j := by
    rw [Nat.mul_comm, Nat.mul_add_mod, Nat.mod_eq_of_lt hj]
  simp [grid, Array.getElem?_ofFn, hlt, h1, h2]
theorem grid_look (n m : Nat) (f : Nat → Nat → Value) (k : Nat) : (grid n m f)[k]? = if k < n * m then some (f (k / m) (k % m)) else none := by
  simp only [grid, Array.getElem?_ofFn]; split <;> rfl
theorem grid_set {n m : Nat} {f : Nat → Nat → Value} {i j : Nat} (hj : j < m) (u : Value) :
    (grid n m f).setIfInBounds (i * m + j) u = grid n m (fun i' j' => if i' = i ∧ j' = j then u else f i' j') := by
  apply Array.ext_getElem?
  intro k
  have hm : 0 < m := by omega
  have e : (i * m + j = k) ↔ (k / m = i ∧ k % m = j) := by
    constructor
    · rintro rfl
      refine ⟨?_, ?_⟩
      · rw [Nat.mul_comm, Nat.mul_add_div hm, Nat.div_eq_of_lt hj, Nat.add_zero]
      · rw [Nat.mul_comm, Nat.mul_add_mod, Nat.mod_eq_of_lt hj]
    · rintro ⟨rfl, rfl⟩
      rw [Nat.mul_comm]
      exact Nat.div_add_mod k m
  rw [Array.getElem?_setIfInBounds, grid_look, grid_look, grid_size]
  by_cases c : i * m + j = k
  · rw [if_pos c, if_pos (e.1 c)]
    subst c; rfl
  · rw [if_neg c, if_neg (fun h => c (e.2 h))]
theorem grid_congr {n m : Nat} {f f' : Nat → Nat → Value} (h : ∀ i j, i < n → j < m → f i j = f' i j) : grid n m f = grid n m f' := by
  apply Array.ext_getElem?
  intro k
  rw [grid_look, grid_look]
  split
  · rename_i hk
    have hm : 0 < m := by
      rcases Nat.eq_zero_or_pos m with h | h
      · subst h; omega
      · exact h
    rw [h _ _ (Nat.div_lt_of_lt_mul (by rw [Nat.mul_comm]; exact hk)) (Nat.mod_lt _ hm)]
  · rfl

section
variable {w w' : World} {g : Nat} {t : TypeId} {n m : Nat} {f : Nat → Nat → Value}
theorem Blk.at (h : Blk w g t (grid n m f)) {i j : Nat} (hi : i < n) (hj : j < m) : w.cell? ⟨g, i * m + j, none⟩ = some (f i j) := by
  rw [h.cell, grid_get hi hj]
theorem Blk.at0 (h : Blk w g t (grid n m f)) {i : Nat} (hi : i < n) (hj : 0 < m) : w.cell? ⟨g, i * m, none⟩ = some (f i 0) := by
  have := h.at hi hj; simpa using this
theorem Blk.put {i j : Nat} {u : Value} (hj : j < m) (h : Blk w g t (grid n m f)) : Blk (w.setCell ⟨g, i * m + j, none⟩ u) g t (grid n m (fun i' j' => if i' = i ∧ j' = j then u else f i' j')) := by
  have := h.same (i * m + j) u; rwa [grid_set hj] at this
theorem Blk.put0 {i : Nat} {u : Value} (hj : 0 < m) (h : Blk w g t (grid n m f)) : Blk (w.setCell ⟨g, i * m, none⟩ u) g t (grid n m (fun i' j' => if i' = i ∧ j' = 0 then u else f i' j')) := Blk.put (i := i) (j := 0) hj h
end

/-- Of what was there, the blocks of S alone may have turned. -/
structure Fr (S : List Nat) (w w' : World) : Prop where
  os : w'.os = w.os
  tape : w'.tape = w.tape
  output : w'.output = w.output
  size : w.heap.size ≤ w'.heap.size
  block : ∀ k, k < w.heap.size → k ∉ S → w'.heap[k]? = w.heap[k]?

section
variable {S : List Nat} {a w w' : World}
theorem Fr.refl (S : List Nat) (w : World) : Fr S w w := ⟨rfl, rfl, rfl, Nat.le_refl _, fun _ _ _ => rfl⟩
theorem Fr.trans {b : World} (h : Fr S a b) (k : Fr S b w) : Fr S a w :=
  ⟨k.os.trans h.os, k.tape.trans h.tape, k.output.trans h.output, Nat.le_trans h.size k.size, fun i hi hn => (k.block i (Nat.lt_of_lt_of_le hi h.size) hn).trans (h.block i hi hn)⟩
theorem Fr.mono {S' : List Nat} (h : Fr S a w) (hs : ∀ x ∈ S, x ∈ S') : Fr S' a w :=
  ⟨h.os, h.tape, h.output, h.size, fun i hi hn => h.block i hi (fun hx => hn (hs _ hx))⟩
theorem Fr.step {S' : List Nat} {b : World} (k : Fr S' b w) (hs : ∀ x ∈ S', x ∈ S) (h : Fr S a b) : Fr S a w := h.trans (k.mono hs)
theorem Fr.drew (h : Fr S a w) : Fr S a w.drew := ⟨h.os, h.tape, h.output, h.size, h.block⟩
theorem Fr.drewN (h : Fr S a w) (n : Nat) : Fr S a (w.drewN n) := ⟨h.os, h.tape, h.output, h.size, h.block⟩
theorem Fr.alloc (h : Fr S a w) (o : Obj) : Fr S a (w.alloc o) :=
  h.trans ⟨rfl, rfl, rfl, by simp, fun k hk _ => Below.heap_alloc _ _ _ hk⟩
theorem Fr.set (h : Fr S a w) {p : Addr} (hp : p.block ∈ S ∨ a.heap.size ≤ p.block) (u : Value) : Fr S a (w.setCell p u) :=
  ⟨h.os, h.tape, h.output, by simpa [World.setCell] using h.size, fun k hk hn => (Below.heap_setCell _ _ _ _ (by
    rintro rfl
    rcases hp with hp | hp
    · exact hn hp
    · omega)).trans (h.block k hk hn)⟩
theorem Fr.setIn {b o : Nat} {u : Value} (hp : b ∈ S) (h : Fr S a w) : Fr S a (w.setCell ⟨b, o, none⟩ u) := h.set (.inl hp) u
theorem Fr.setNew {b o : Nat} {u : Value} (hp : a.heap.size ≤ b) (h : Fr S a w) : Fr S a (w.setCell ⟨b, o, none⟩ u) := h.set (.inr hp) u
theorem Fr.below {B : Nat} {b : World} (hb : Below B b a) (h : Fr S a w) (hS : ∀ x ∈ S, B ≤ x) (hB : B ≤ a.heap.size) : Below B b w :=
  hb.trans ⟨h.os, h.tape, h.output, h.size, fun k hk => h.block k (by omega) (fun hx => by have := hS k hx; omega)⟩
theorem Fr.of_below (h : Below a.heap.size a w) (S : List Nat) : Fr S a w := ⟨h.os, h.tape, h.output, h.size, fun k hk _ => h.block k hk⟩
theorem Blk.fr {g : Nat} {t : TypeId} {cs : Array Value} (h : Blk a g t cs) (hf : Fr S a w) (hg : g ∉ S) : Blk w g t cs := (hf.block g h.lt hg).trans h
theorem Blk.via {g : Nat} {t : TypeId} {cs : Array Value} (hf : Fr S a w) (hg : g ∉ S) (h : Blk a g t cs) : Blk w g t cs := (hf.block g h.lt hg).trans h
theorem Fr.cell (h : Fr [] a w) : ∀ b o, b < a.heap.size → w.cell? ⟨b, o, none⟩ = a.cell? ⟨b, o, none⟩ := fun b o hb => World.cell?_of_block (w := a) (h.block b hb (by simp))
theorem Fr.frozen (h : Fr [] a w) : ∀ b o, b < a.heap.size → w.frozen? ⟨b, o, none⟩ = a.frozen? ⟨b, o, none⟩ := fun b o hb => World.frozen?_of_block (w := a) (h.block b hb (by simp))
theorem Fr.toBelow (h : Fr [] a w) : Below a.heap.size a w := ⟨h.os, h.tape, h.output, h.size, fun k hk => h.block k hk (by simp)⟩
end

theorem wp_name {P : Program} {c : Code} {Q : Exit → Act → World → Prop} {a : Act} {w : World} (h : ∀ W, W = w → Code.wp P c Q a W) : Code.wp P c Q a w := h w rfl
section
variable {W u : World} {t : TypeId} {cs : Array Value} {o o' o'' o3 : Obj}
theorem Blk.box0 (h : W = u.alloc (.cells cs t)) : Blk W u.heap.size t cs := by subst h; exact Blk.new _ _ _
theorem Blk.box1 (h : W = (u.alloc (.cells cs t)).alloc o) : Blk W u.heap.size t cs := by subst h; exact (Blk.new _ _ _).alloc _
theorem Blk.box2 (h : W = ((u.alloc (.cells cs t)).alloc o).alloc o') : Blk W u.heap.size t cs := by subst h; exact ((Blk.new _ _ _).alloc _).alloc _
theorem Blk.box3 (h : W = (((u.alloc (.cells cs t)).alloc o).alloc o').alloc o'') : Blk W u.heap.size t cs := by subst h; exact (((Blk.new _ _ _).alloc _).alloc _).alloc _
theorem Blk.box4 (h : W = ((((u.alloc (.cells cs t)).alloc o).alloc o').alloc o'').alloc o3) : Blk W u.heap.size t cs := by subst h; exact ((((Blk.new _ _ _).alloc _).alloc _).alloc _).alloc _
end
theorem Blk.eqv {W u : World} {g : Nat} {t : TypeId} {cs : Array Value} (hW : W = u) (h : Blk u g t cs) : Blk W g t cs := hW ▸ h
theorem Fr.eqv {S : List Nat} {W u a : World} (hW : W = u) (h : Fr S a u) : Fr S a W := hW ▸ h
theorem ret_bool {a b : Bool} (h : a = b) : Ending.returned (.bool a) = .returned (.bool b) := by rw [h]
theorem ret_int {a b : Int} (h : a = b) : Ending.returned (.int .i64 a) = .returned (.int .i64 b) := by rw [h]

/-- make([]T, n), T a struct of several cells: a row of n zero structs. -/
theorem madeCells_grid (z : Array Value) (n m : Nat) (hz : z.size = m) (hm : 0 < m) : madeCells z (n * m) = grid n m (fun _ j => z[j]!) := by
  apply Array.ext_getElem?
  intro k
  rw [grid_look]
  simp only [madeCells, Array.getElem?_map, hz]
  by_cases h : k < n * m
  · simp [h]
  · simp [h]
theorem run_makeGrid {P : Program} {t e : TypeId} {i : TypeInfo} {z : Value} {m : Nat} (ht : P.underlying t = some (.slice e)) (hi : P.info? e = some i) (hz : i.zero = some z) (hs : i.size = m) (hc : z.cells.size = m) (hm : 0 < m)
    (n : Nat) (hb : i.bytes * n ≤ 281474976710656) (h63 : n ≤ 9223372036854775807) (w : World) :
    (Instr.makeSlice t (.int .i64 (n : Int)) (.int .i64 (n : Int))).run P w = .ok (.slice (some ⟨w.heap.size, 0, none⟩) n n) (w.alloc (.cells (grid n m (fun _ j => z.cells[j]!)) e)) := by
  have h := run_make (P := P) w t e i z ht hi hz .i64 .i64 n n (by omega) (by omega) (by rw [← Int.natCast_mul]; omega) (by omega)
  simp only [Int.toNat_natCast, hs] at h
  rw [madeCells_grid _ _ _ hc hm] at h
  exact h

/-- One operation of a region that draws its order, in a class of worlds: it is carried out and yields v. -/
theorem soft_do {P : Program} {ops : Array Oper} {C : World → Prop} {K : Act → Prop} {a : Act} {o : Oper} {v : Value} (hw : Region.wanted o (yielded ops a.tmps) = true) (hq : ∀ w, C w → o.quietAt P a C w v) (h : K (a.put o.dst v)) :
    if Region.wanted o (yielded ops a.tmps) then o.quiet P a C K else K (a.put o.dst undef) := by
  rw [if_pos hw]; exact ⟨v, hq, h⟩
/-- .. it is passed over. -/
theorem soft_skip {P : Program} {ops : Array Oper} {C : World → Prop} {K : Act → Prop} {a : Act} {o : Oper} (hw : Region.wanted o (yielded ops a.tmps) = false) (h : K (a.put o.dst undef)) :
    if Region.wanted o (yielded ops a.tmps) then o.quiet P a C K else K (a.put o.dst undef) := by
  rw [if_neg (by rw [hw]; decide)]; exact h
/-- .. it loads a whole block that is known. -/
theorem soft_row {P : Program} {ops : Array Oper} {C : World → Prop} {K : Act → Prop} {a : Act} {o : Oper} (ty : TypeId) (x : Operand) (g : Nat) (t : TypeId) (cs : Array Value) (d : TypeDesc) (hw : Region.wanted o (yielded ops a.tmps) = true) (ho : o.op = .load ty x)
    (hx : a.eval x = .pointer (some ⟨g, 0, none⟩)) (hB : ∀ W, C W → Blk W g t cs) (hu : P.underlying ty = some d) (hd : (match d with | .struct _ | .array _ _ => true | _ => false) = true) (hi : (P.info? ty).map (·.size) = some cs.size) (h : K (a.put o.dst (.agg cs))) :
    if Region.wanted o (yielded ops a.tmps) then o.quiet P a C K else K (a.put o.dst undef) := by
  refine soft_do hw (fun W hC => ?_) h
  unfold Oper.quietAt execOp
  simp only [ho, hx, Instr.loadAt, Instr.sureAddr, Sem.run_bind, Sem.run_pure, Result.andThen_ok, run_loadVar_row W g t ty cs (0, 0) d (hB W hC) hu hd hi]
  exact ⟨rfl, rfl⟩
/-- A region that draws its order, whose operations read and whose callees at most make new blocks: one walk, in the order of the text. -/
theorem wp_region_soft {P : Program} {id : Nat} {Q : Exit → Act → World → Prop} {a : Act} {w : World} {l : List Oper} (hm : P.follows .mixedOrders = true) (hB : Region.lexB .any l.toArray = true)
    (h : wpQuiet P l.toArray (Fr [] w) (fun a' => ∀ w', Fr [] w w' → Q .normal a' w') l a) : (Code.region id l.toArray true).wp P Q a w :=
  wp_region_quiet (C := Fr [] w) hm hB (Fr.drew (Fr.refl [] _)) (by simpa using h)
end Go.Proofs.Ytkimldeagndgjaa
