/- Words and contracts: Mem Until Idx IdxB IdxC ArA ArB ArC ArD ArE. -/
import Derived.WalkKit
import Derived.Deep.QuietTactic
import Derived.BigQuiet
import Derived.Deep.Draws
import Derived.KernelRfl
import Derived.Lib.Hide
import Derived.WalkLawsBesides
import Derived.WalkSpells
import Derived.OrdersHeld
import Derived.StillTail
import Derived.Tactics
import Derived.MapKept
import Derived.ChangeMaps5
import Derived.Carry
import Derived.Test.YtkimldeagndgjaaProg
import Derived.Outline
import Derived.Deep.MidRow
/- Words for memory: blocks that are known whole, rows of structs, what stays as it was. No program stands in this text. -/
namespace Go.Proofs.Ytkimldeagndgjaa
set_option linter.unusedVariables false
set_option linter.unusedSimpArgs false
open Go.RowKit

/-- Block g is just the cells cs of element type t, none of them frozen. -/
def Blk (w : World) (g : Nat) (t : TypeId) (cs : Array Value) : Prop := w.heap[g]? = some (.cells cs t (0, 0))

section
variable {w w' : World} {g : Nat} {t : TypeId} {cs : Array Value}
theorem Blk.lt (h : Blk w g t cs) : g < w.heap.size := by
  rcases Nat.lt_or_ge g w.heap.size with hl | hl
  · exact hl
  · exfalso; unfold Blk at h; rw [Array.getElem?_eq_none hl] at h; cases h
theorem Blk.cell (h : Blk w g t cs) (i : Nat) : w.cell? ⟨g, i, none⟩ = cs[i]? := cell_of_row w g i cs t (0, 0) h
theorem Blk.frozen (h : Blk w g t cs) (i : Nat) : w.frozen? ⟨g, i, none⟩ = false := by
  unfold Blk at h; simp [World.frozen?, h]
theorem Blk.new (w : World) (t : TypeId) (cs : Array Value) : Blk (w.alloc (.cells cs t)) w.heap.size t cs := heap_alloc_new w _
theorem Blk.newAt {o : Obj} (h : o = .cells cs t) (hg : g = w.heap.size) : Blk (w.alloc o) g t cs := by subst h; subst hg; exact heap_alloc_new w _
theorem Blk.drew (h : Blk w g t cs) : Blk w.drew g t cs := h
theorem Blk.drewN (h : Blk w g t cs) (n : Nat) : Blk (w.drewN n) g t cs := h
theorem Blk.alloc (h : Blk w g t cs) (o : Obj) : Blk (w.alloc o) g t cs := (Below.heap_alloc w o g h.lt).trans h
theorem Blk.same (h : Blk w g t cs) (i : Nat) (u : Value) : Blk (w.setCell ⟨g, i, none⟩ u) g t (cs.setIfInBounds i u) := by
  unfold Blk at h ⊢; simp [World.setCell, Array.getElem?_modify, h]
theorem Blk.far (h : Blk w g t cs) {p : Addr} (hp : g ≠ p.block) (u : Value) : Blk (w.setCell p u) g t cs := (Below.heap_setCell w p u g hp).trans h
theorem Blk.off {b o : Nat} {u : Value} (hp : g ≠ b) (h : Blk w g t cs) : Blk (w.setCell ⟨b, o, none⟩ u) g t cs := h.far hp u
theorem Blk.cast {cs' : Array Value} (h : Blk w g t cs) (e : cs = cs') : Blk w g t cs' := e ▸ h
theorem Blk.below {B : Nat} (h : Blk w g t cs) (hb : Below B w w') (hg : g < B) : Blk w' g t cs := (hb.block g hg).trans h
theorem Blk.ne {g' : Nat} {t' : TypeId} {cs' : Array Value} (h : Blk w g t cs) (h' : Blk w g' t' cs') (hne : t ≠ t') : g ≠ g' := by
  rintro rfl
  unfold Blk at h h'
  rw [h] at h'
  injection h' with h'
  injection h' with _ ht
  exact hne ht
end

/-- A row of n structs of m cells each, written out by cells. -/
def grid (n m : Nat) (f : Nat → Nat → Value) : Array Value := Array.ofFn (n := n * m) fun k => f (k.val / m) (k.val % m)
theorem grid_size (n m : Nat) (f : Nat → Nat → Value) : (grid n m f).size = n * m := by simp [grid]
theorem grid_get {n m : Nat} {f : Nat → Nat → Value} {i j : Nat} (hi : i < n) (hj : j < m) : (grid n m f)[i * m + j]? = some (f i j) := by
  have hlt : i * m + j < n * m := by
    have h1 : i * m + m ≤ n * m := by rw [← Nat.succ_mul]; exact Nat.mul_le_mul_right m hi
    omega
  have h1 : (i * m + j) / m = i := by
    rw [Nat.mul_comm, Nat.mul_add_div (by omega), Nat.div_eq_of_lt hj, Nat.add_zero]
  have h2 : (i * m + j) % m = j := by
    rw [Nat.mul_comm, Nat.mul_add_mod, Nat.mod_eq_of_lt hj]
  simp [grid, Array.getElem?_ofFn, hlt, h1, h2]
theorem grid_look (n m : Nat) (f : Nat → Nat → Value) (k : Nat) : (grid n m f)[k]? = if k < n * m then some (f (k / m) (k % m)) else none := by
  simp only [grid, Array.getElem?_ofFn]; split <;> rfl
theorem grid_set {n m : Nat} {f : Nat → Nat → Value} {i j : Nat} (hj : j < m) (u : Value) :
    (grid n m f).setIfInBounds (i * m + j) u = grid n m (fun i' j' => if i' = i ∧ j' = j then u else f i' j') := by
  apply Array.ext_getElem?
  intro k
  have hm : 0 < m := by omega
  have e : (i * m + j = k) ↔ (k / m = i ∧ k % m = j) := by
    constructor
    · rintro rfl
      refine ⟨?_, ?_⟩
      · rw [Nat.mul_comm, Nat.mul_add_div hm, Nat.div_eq_of_lt hj, Nat.add_zero]
      · rw [Nat.mul_comm, Nat.mul_add_mod, Nat.mod_eq_of_lt hj]
    · rintro ⟨rfl, rfl⟩
      rw [Nat.mul_comm]
      exact Nat.div_add_mod k m
  rw [Array.getElem?_setIfInBounds, grid_look, grid_look, grid_size]
  by_cases c : i * m + j = k
  · rw [if_pos c, if_pos (e.1 c)]
    subst c; rfl
  · rw [if_neg c, if_neg (fun h => c (e.2 h))]
theorem grid_congr {n m : Nat} {f f' : Nat → Nat → Value} (h : ∀ i j, i < n → j < m → f i j = f' i j) : grid n m f = grid n m f' := by
  apply Array.ext_getElem?
  intro k
  rw [grid_look, grid_look]
  split
  · rename_i hk
    have hm : 0 < m := by
      rcases Nat.eq_zero_or_pos m with h | h
      · subst h; omega
      · exact h
    rw [h _ _ (Nat.div_lt_of_lt_mul (by rw [Nat.mul_comm]; exact hk)) (Nat.mod_lt _ hm)]
  · rfl

section
variable {w w' : World} {g : Nat} {t : TypeId} {n m : Nat} {f : Nat → Nat → Value}
theorem Blk.at (h : Blk w g t (grid n m f)) {i j : Nat} (hi : i < n) (hj : j < m) : w.cell? ⟨g, i * m + j, none⟩ = some (f i j) := by
  rw [h.cell, grid_get hi hj]
theorem Blk.at0 (h : Blk w g t (grid n m f)) {i : Nat} (hi : i < n) (hj : 0 < m) : w.cell? ⟨g, i * m, none⟩ = some (f i 0) := by
  have := h.at hi hj; simpa using this
theorem Blk.put {i j : Nat} {u : Value} (hj : j < m) (h : Blk w g t (grid n m f)) : Blk (w.setCell ⟨g, i * m + j, none⟩ u) g t (grid n m (fun i' j' => if i' = i ∧ j' = j then u else f i' j')) := by
  have := h.same (i * m + j) u; rwa [grid_set hj] at this
theorem Blk.put0 {i : Nat} {u : Value} (hj : 0 < m) (h : Blk w g t (grid n m f)) : Blk (w.setCell ⟨g, i * m, none⟩ u) g t (grid n m (fun i' j' => if i' = i ∧ j' = 0 then u else f i' j')) := Blk.put (i := i) (j := 0) hj h
end

/-- Of what was there, the blocks of S alone may have turned. -/
structure Fr (S : List Nat) (w w' : World) : Prop where
  os : w'.os = w.os
  tape : w'.tape = w.tape
  output : w'.output = w.output
  size : w.heap.size ≤ w'.heap.size
  block : ∀ k, k < w.heap.size → k ∉ S → w'.heap[k]? = w.heap[k]?

section
variable {S : List Nat} {a w w' : World}
theorem Fr.refl (S : List Nat) (w : World) : Fr S w w := ⟨rfl, rfl, rfl, Nat.le_refl _, fun _ _ _ => rfl⟩
theorem Fr.trans {b : World} (h : Fr S a b) (k : Fr S b w) : Fr S a w :=
  ⟨k.os.trans h.os, k.tape.trans h.tape, k.output.trans h.output, Nat.le_trans h.size k.size, fun i hi hn => (k.block i (Nat.lt_of_lt_of_le hi h.size) hn).trans (h.block i hi hn)⟩
theorem Fr.mono {S' : List Nat} (h : Fr S a w) (hs : ∀ x ∈ S, x ∈ S') : Fr S' a w :=
  ⟨h.os, h.tape, h.output, h.size, fun i hi hn => h.block i hi (fun hx => hn (hs _ hx))⟩
theorem Fr.step {S' : List Nat} {b : World} (k : Fr S' b w) (hs : ∀ x ∈ S', x ∈ S) (h : Fr S a b) : Fr S a w := h.trans (k.mono hs)
theorem Fr.drew (h : Fr S a w) : Fr S a w.drew := ⟨h.os, h.tape, h.output, h.size, h.block⟩
theorem Fr.drewN (h : Fr S a w) (n : Nat) : Fr S a (w.drewN n) := ⟨h.os, h.tape, h.output, h.size, h.block⟩
theorem Fr.alloc (h : Fr S a w) (o : Obj) : Fr S a (w.alloc o) :=
  h.trans ⟨rfl, rfl, rfl, by simp, fun k hk _ => Below.heap_alloc _ _ _ hk⟩
theorem Fr.set (h : Fr S a w) {p : Addr} (hp : p.block ∈ S ∨ a.heap.size ≤ p.block) (u : Value) : Fr S a (w.setCell p u) :=
  ⟨h.os, h.tape, h.output, by simpa [World.setCell] using h.size, fun k hk hn => (Below.heap_setCell _ _ _ _ (by
    rintro rfl
    rcases hp with hp | hp
    · exact hn hp
    · omega)).trans (h.block k hk hn)⟩
theorem Fr.setIn {b o : Nat} {u : Value} (hp : b ∈ S) (h : Fr S a w) : Fr S a (w.setCell ⟨b, o, none⟩ u) := h.set (.inl hp) u
theorem Fr.setNew {b o : Nat} {u : Value} (hp : a.heap.size ≤ b) (h : Fr S a w) : Fr S a (w.setCell ⟨b, o, none⟩ u) := h.set (.inr hp) u
theorem Fr.below {B : Nat} {b : World} (hb : Below B b a) (h : Fr S a w) (hS : ∀ x ∈ S, B ≤ x) (hB : B ≤ a.heap.size) : Below B b w :=
  hb.trans ⟨h.os, h.tape, h.output, h.size, fun k hk => h.block k (by omega) (fun hx => by have := hS k hx; omega)⟩
theorem Fr.of_below (h : Below a.heap.size a w) (S : List Nat) : Fr S a w := ⟨h.os, h.tape, h.output, h.size, fun k hk _ => h.block k hk⟩
theorem Blk.fr {g : Nat} {t : TypeId} {cs : Array Value} (h : Blk a g t cs) (hf : Fr S a w) (hg : g ∉ S) : Blk w g t cs := (hf.block g h.lt hg).trans h
theorem Blk.via {g : Nat} {t : TypeId} {cs : Array Value} (hf : Fr S a w) (hg : g ∉ S) (h : Blk a g t cs) : Blk w g t cs := (hf.block g h.lt hg).trans h
theorem Fr.cell (h : Fr [] a w) : ∀ b o, b < a.heap.size → w.cell? ⟨b, o, none⟩ = a.cell? ⟨b, o, none⟩ := fun b o hb => World.cell?_of_block (w := a) (h.block b hb (by simp))
theorem Fr.frozen (h : Fr [] a w) : ∀ b o, b < a.heap.size → w.frozen? ⟨b, o, none⟩ = a.frozen? ⟨b, o, none⟩ := fun b o hb => World.frozen?_of_block (w := a) (h.block b hb (by simp))
theorem Fr.toBelow (h : Fr [] a w) : Below a.heap.size a w := ⟨h.os, h.tape, h.output, h.size, fun k hk => h.block k hk (by simp)⟩
end

theorem wp_name {P : Program} {c : Code} {Q : Exit → Act → World → Prop} {a : Act} {w : World} (h : ∀ W, W = w → Code.wp P c Q a W) : Code.wp P c Q a w := h w rfl
section
variable {W u : World} {t : TypeId} {cs : Array Value} {o o' o'' o3 : Obj}
theorem Blk.box0 (h : W = u.alloc (.cells cs t)) : Blk W u.heap.size t cs := by subst h; exact Blk.new _ _ _
theorem Blk.box1 (h : W = (u.alloc (.cells cs t)).alloc o) : Blk W u.heap.size t cs := by subst h; exact (Blk.new _ _ _).alloc _
theorem Blk.box2 (h : W = ((u.alloc (.cells cs t)).alloc o).alloc o') : Blk W u.heap.size t cs := by subst h; exact ((Blk.new _ _ _).alloc _).alloc _
theorem Blk.box3 (h : W = (((u.alloc (.cells cs t)).alloc o).alloc o').alloc o'') : Blk W u.heap.size t cs := by subst h; exact (((Blk.new _ _ _).alloc _).alloc _).alloc _
theorem Blk.box4 (h : W = ((((u.alloc (.cells cs t)).alloc o).alloc o').alloc o'').alloc o3) : Blk W u.heap.size t cs := by subst h; exact ((((Blk.new _ _ _).alloc _).alloc _).alloc _).alloc _
end
theorem Blk.eqv {W u : World} {g : Nat} {t : TypeId} {cs : Array Value} (hW : W = u) (h : Blk u g t cs) : Blk W g t cs := hW ▸ h
theorem Fr.eqv {S : List Nat} {W u a : World} (hW : W = u) (h : Fr S a u) : Fr S a W := hW ▸ h
theorem ret_bool {a b : Bool} (h : a = b) : Ending.returned (.bool a) = .returned (.bool b) := by rw [h]
theorem ret_int {a b : Int} (h : a = b) : Ending.returned (.int .i64 a) = .returned (.int .i64 b) := by rw [h]

/-- make([]T, n), T a struct of several cells: a row of n zero structs. -/
theorem madeCells_grid (z : Array Value) (n m : Nat) (hz : z.size = m) (hm : 0 < m) : madeCells z (n * m) = grid n m (fun _ j => z[j]!) := by
  apply Array.ext_getElem?
  intro k
  rw [grid_look]
  simp only [madeCells, Array.getElem?_map, hz]
  by_cases h : k < n * m
  · simp [h]
  · simp [h]
theorem run_makeGrid {P : Program} {t e : TypeId} {i : TypeInfo} {z : Value} {m : Nat} (ht : P.underlying t = some (.slice e)) (hi : P.info? e = some i) (hz : i.zero = some z) (hs : i.size = m) (hc : z.cells.size = m) (hm : 0 < m)
    (n : Nat) (hb : i.bytes * n ≤ 281474976710656) (h63 : n ≤ 9223372036854775807) (w : World) :
    (Instr.makeSlice t (.int .i64 (n : Int)) (.int .i64 (n : Int))).run P w = .ok (.slice (some ⟨w.heap.size, 0, none⟩) n n) (w.alloc (.cells (grid n m (fun _ j => z.cells[j]!)) e)) := by
  have h := run_make (P := P) w t e i z ht hi hz .i64 .i64 n n (by omega) (by omega) (by rw [← Int.natCast_mul]; omega) (by omega)
  simp only [Int.toNat_natCast, hs] at h
  rw [madeCells_grid _ _ _ hc hm] at h
  exact h

/-- One operation of a region that draws its order, in a class of worlds: it is carried out and yields v. -/
theorem soft_do {P : Program} {ops : Array Oper} {C : World → Prop} {K : Act → Prop} {a : Act} {o : Oper} {v : Value} (hw : Region.wanted o (yielded ops a.tmps) = true) (hq : ∀ w, C w → o.quietAt P a C w v) (h : K (a.put o.dst v)) :
    if Region.wanted o (yielded ops a.tmps) then o.quiet P a C K else K (a.put o.dst undef) := by
  rw [if_pos hw]; exact ⟨v, hq, h⟩
/-- .. it is passed over. -/
theorem soft_skip {P : Program} {ops : Array Oper} {C : World → Prop} {K : Act → Prop} {a : Act} {o : Oper} (hw : Region.wanted o (yielded ops a.tmps) = false) (h : K (a.put o.dst undef)) :
    if Region.wanted o (yielded ops a.tmps) then o.quiet P a C K else K (a.put o.dst undef) := by
  rw [if_neg (by rw [hw]; decide)]; exact h
/-- .. it loads a whole block that is known. -/
theorem soft_row {P : Program} {ops : Array Oper} {C : World → Prop} {K : Act → Prop} {a : Act} {o : Oper} (ty : TypeId) (x : Operand) (g : Nat) (t : TypeId) (cs : Array Value) (d : TypeDesc) (hw : Region.wanted o (yielded ops a.tmps) = true) (ho : o.op = .load ty x)
    (hx : a.eval x = .pointer (some ⟨g, 0, none⟩)) (hB : ∀ W, C W → Blk W g t cs) (hu : P.underlying ty = some d) (hd : (match d with | .struct _ | .array _ _ => true | _ => false) = true) (hi : (P.info? ty).map (·.size) = some cs.size) (h : K (a.put o.dst (.agg cs))) :
    if Region.wanted o (yielded ops a.tmps) then o.quiet P a C K else K (a.put o.dst undef) := by
  refine soft_do hw (fun W hC => ?_) h
  unfold Oper.quietAt execOp
  simp only [ho, hx, Instr.loadAt, Instr.sureAddr, Sem.run_bind, Sem.run_pure, Result.andThen_ok, run_loadVar_row W g t ty cs (0, 0) d (hB W hC) hu hd hi]
  exact ⟨rfl, rfl⟩
/-- A region that draws its order, whose operations read and whose callees at most make new blocks: one walk, in the order of the text. -/
theorem wp_region_soft {P : Program} {id : Nat} {Q : Exit → Act → World → Prop} {a : Act} {w : World} {l : List Oper} (hm : P.follows .mixedOrders = true) (hB : Region.lexB .any l.toArray = true)
    (h : wpQuiet P l.toArray (Fr [] w) (fun a' => ∀ w', Fr [] w w' → Q .normal a' w') l a) : (Code.region id l.toArray true).wp P Q a w :=
  wp_region_quiet (C := Fr [] w) hm hB (Fr.drew (Fr.refl [] _)) (by simpa using h)
end Go.Proofs.Ytkimldeagndgjaa

/- A region that draws its order and whose last operation (a store) writes what the region has read: what the region reads is held until that last operation comes up. No program stands in this text. -/
namespace Go.Proofs.Ytkimldeagndgjaa
set_option linter.unusedVariables false
set_option linter.unusedSimpArgs false
open Go

section
variable {P : Program} {ops : Array Oper} {Q : Exit → Act → World → Prop} {md : Region.Mode} {S : World → Prop} {st : Nat}

/-- Whatever order is picked; S holds behind every operation but number st. -/
def anyU (P : Program) (md : Region.Mode) (ops : Array Oper) (Q : Exit → Act → World → Prop) (S : World → Prop) (st : Nat) : Nat → Array Bool → Act → World → Prop
  | 0, listed, a, w => Region.ready md ops listed = [] ∧ Q .normal a w
  | fuel + 1, listed, a, w =>
    (Region.ready md ops listed = [] → Q .normal a w) ∧
    ∀ i ∈ Region.ready md ops listed, wpOp P ops Q i (fun a' w' => (i ≠ st → S w') ∧ anyU P md ops Q S st fuel (listed.setIfInBounds i true) a' w') a w

theorem any_of_u : ∀ (fuel : Nat) (listed : Array Bool) (a : Act) (w : World), anyU P md ops Q S st fuel listed a w → wpAny P md ops Q fuel listed a w
  | 0, _, _, _, h => h
  | fuel + 1, _, _, _, h => ⟨h.1, fun i hi => wpOp_mono (fun a' w' h' => any_of_u fuel _ a' w' h'.2) (h.2 i hi)⟩

/-- All others wait .. : st is the last. -/
structure Last (md : Region.Mode) (ops : Array Oper) (st : Nat) : Prop where
  sel : Region.noSelect ops = true
  sink : Region.sinkB md ops st = true
  chain : Region.chainB md ops st = true
  size : st + 1 = ops.size

theorem u_first {i : Nat} {oi : Oper} {v : Value} (L : Last md ops st) (hi : ops[i]? = some oi) (his : i < st)
    (hQ : ∀ c a w, Q (.panic c) (a.put oi.dst v) w → Q (.panic c) a w) :
    ∀ (fuel : Nat) (listed : Array Bool) (a : Act) (w : World), HeadInv md ops st listed →
      (∀ j oj, ops[j]? = some oj → j ≠ i → listed.getD j true = false → (∀ e ∈ oj.after, Region.binds md e = true → e.on ≠ i) → oi.apart ops oj = true) →
      i ∈ Region.ready md ops listed → YieldsIf P ops S oi v a → S w →
      anyU P md ops Q S st fuel (listed.setIfInBounds i true) (a.put oi.dst v) w → anyU P md ops Q S st (fuel + 1) listed a w := by
  intro fuel
  induction fuel with
  | zero =>
    intro listed a w _ _ hr hy hS H
    refine ⟨fun h => (by rw [h] at hr; cases hr), fun j hj => ?_⟩
    by_cases hji : j = i
    · subst hji; exact hy.wpOp hi hS ⟨fun _ => hS, H⟩
    · have h0 := ready_mono hj hji
      rw [H.1] at h0
      cases h0
  | succ fuel ih =>
    intro listed a w inv hfree hr hy hS H
    refine ⟨fun h => (by rw [h] at hr; cases hr), fun j hj => ?_⟩
    by_cases hji : j = i
    · subst hji; exact hy.wpOp hi hS ⟨fun _ => hS, H⟩
    · have hun : listed.getD i true = false := (mem_ready.1 hr).1
      obtain ⟨hjun, oj, hoj, hall⟩ := mem_ready.1 hj
      have hjl : j < st := by
        have h1 : j < ops.size := (Array.getElem?_eq_some_iff.1 hoj).1
        have h2 := L.size
        rcases Nat.lt_or_ge j st with h3 | h3
        · exact h3
        · exact absurd hj (tail_waits L.sink L.chain (by omega) inv (st - i) i rfl his hun j h3)
      have h1 := H.2 j (ready_mono hj hji)
      have hnot : ∀ e ∈ oj.after, Region.binds md e = true → e.on ≠ i := fun e he hb heq => by
        have h1 := hall e he hb
        rw [heq, getD_both hun] at h1
        cases h1
      have h2 := wpOp_putIf hoj (hfree j oj hoj hji hjun hnot) (fun cs b => Region.noSelect_spec L.sel i oi cs b hi) (fun cs b => Region.noSelect_spec L.sel j oj cs b hoj) hQ hy h1
      have hfree' : ∀ k ok, ops[k]? = some ok → k ≠ i → (listed.setIfInBounds j true).getD k true = false →
          (∀ e ∈ ok.after, Region.binds md e = true → e.on ≠ i) → oi.apart ops ok = true := fun k ok hk hki hu hno => by
        refine hfree k ok hk hki ?_ hno
        by_cases hjk : j = k
        · subst hjk; exact hjun
        · rw [getD_set_ne true hjk] at hu; exact hu
      refine wpOp_mono (fun a' w' h3 => ⟨h3.2.1, ih (listed.setIfInBounds j true) a' w' (inv.set hj hjl) hfree' (ready_mono hr (Ne.symm hji)) h3.1 (h3.2.1 (by omega)) ?_⟩) h2
      rw [Array.setIfInBounds_comm _ _ hji]
      exact h3.2.2

/-- The state of such a walk. -/
def U (P : Program) (md : Region.Mode) (ops : Array Oper) (Q : Exit → Act → World → Prop) (S : World → Prop) (st fuel : Nat) (listed : Array Bool) (a : Act) (w : World) : Prop :=
  Last md ops st → HeadInv md ops st listed → S w → anyU P md ops Q S st fuel listed a w

theorem u_take (i : Nat) {oi : Oper} {v : Value} {fuel : Nat} {listed : Array Bool} {a : Act} {w : World} (hi : ops[i]? = some oi) (his : decide (i < st) = true)
    (hf : Region.free md ops listed i = true) (hr : (Region.ready md ops listed).contains i = true)
    (hQ : ∀ c a w, Q (.panic c) (a.put oi.dst v) w → Q (.panic c) a w) (hy : YieldsIf P ops S oi v a)
    (h : U P md ops Q S st fuel (listed.setIfInBounds i true) (a.put oi.dst v) w) : U P md ops Q S st (fuel + 1) listed a w := fun L inv hS => by
  have hr' : i ∈ Region.ready md ops listed := by simpa using hr
  have his' : i < st := by simpa using his
  exact u_first L hi his' hQ fuel listed a w inv (Region.free_spec hi hf) hr' hy hS (h L (inv.set hr' his') hS)

theorem u_step (i : Nat) {oi : Oper} {fuel : Nat} {listed : Array Bool} {a : Act} {w : World} (hi : ops[i]? = some oi) (his : decide (i < st) = true) (hr : (Region.ready md ops listed).contains i = true)
    (h : ∀ K : Act → World → Prop, (∀ a' w', S w' → U P md ops Q S st fuel (listed.setIfInBounds i true) a' w' → K a' w') →
      if Region.wanted oi (yielded ops a.tmps) = true then Oper.wp P oi a w K Q else K (a.put oi.dst undef) w) (L : Last md ops st) (inv : HeadInv md ops st listed) :
    wpOp P ops Q i (fun a' w' => (i ≠ st → S w') ∧ anyU P md ops Q S st fuel (listed.setIfInBounds i true) a' w') a w := by
  have hr' : i ∈ Region.ready md ops listed := by simpa using hr
  have his' : i < st := by simpa using his
  unfold wpOp
  simp only [hi]
  have h1 := h (fun a' w' => (i ≠ st → S w') ∧ anyU P md ops Q S st fuel (listed.setIfInBounds i true) a' w') (fun a' w' h1 h2 => ⟨fun _ => h1, h2 L (inv.set hr' his') h1⟩)
  split
  · rename_i hw; rw [if_pos hw] at h1; exact .inl h1
  · rename_i hw; rw [if_neg hw] at h1; exact h1

/-- One alone may come up. -/
theorem u_one (i : Nat) {oi : Oper} {fuel : Nat} {listed : Array Bool} {a : Act} {w : World} (hr : Region.ready md ops listed = [i]) (hi : ops[i]? = some oi) (his : decide (i < st) = true)
    (h : ∀ K : Act → World → Prop, (∀ a' w', S w' → U P md ops Q S st fuel (listed.setIfInBounds i true) a' w' → K a' w') →
      if Region.wanted oi (yielded ops a.tmps) = true then Oper.wp P oi a w K Q else K (a.put oi.dst undef) w) : U P md ops Q S st (fuel + 1) listed a w := fun L inv hS => by
  refine ⟨fun h0 => (by rw [hr] at h0; cases h0), fun j hj => ?_⟩
  rw [hr] at hj
  obtain rfl : j = i := by simpa using hj
  exact u_step j hi his (by rw [hr]; simp) h L inv

/-- One of two. -/
theorem u_two (i k : Nat) {oi ok : Oper} {fuel : Nat} {listed : Array Bool} {a : Act} {w : World} (hr : Region.ready md ops listed = [i, k]) (hi : ops[i]? = some oi) (his : decide (i < st) = true) (hk : ops[k]? = some ok) (hks : decide (k < st) = true)
    (h : ∀ K : Act → World → Prop, (∀ a' w', S w' → U P md ops Q S st fuel (listed.setIfInBounds i true) a' w' → K a' w') →
      if Region.wanted oi (yielded ops a.tmps) = true then Oper.wp P oi a w K Q else K (a.put oi.dst undef) w)
    (h2 : ∀ K : Act → World → Prop, (∀ a' w', S w' → U P md ops Q S st fuel (listed.setIfInBounds k true) a' w' → K a' w') →
      if Region.wanted ok (yielded ops a.tmps) = true then Oper.wp P ok a w K Q else K (a.put ok.dst undef) w) : U P md ops Q S st (fuel + 1) listed a w := fun L inv hS => by
  refine ⟨fun h0 => (by rw [hr] at h0; cases h0), fun j hj => ?_⟩
  rw [hr] at hj
  rcases (show j = i ∨ j = k by simpa using hj) with rfl | rfl
  · exact u_step j hi his (by rw [hr]; simp) h L inv
  · exact u_step j hk hks (by rw [hr]; simp) h2 L inv

/-- The last one. -/
theorem u_last {o : Oper} {fuel : Nat} {listed : Array Bool} {a : Act} {w : World} (hr : Region.ready md ops listed = [st]) (ho : ops[st]? = some o) (he : Region.ready md ops (listed.setIfInBounds st true) = [])
    (h : wpList P ops Q [o] a w) : U P md ops Q S st (fuel + 1) listed a w := fun L inv hS => by
  refine ⟨fun h0 => (by rw [hr] at h0; cases h0), fun j hj => ?_⟩
  rw [hr] at hj
  obtain rfl : j = st := by simpa using hj
  have hw : wpOp P ops Q j (wpList P ops Q []) a w := by unfold wpOp; simp only [ho]; exact h
  refine wpOp_mono (fun a' w' h' => ⟨fun hn => absurd rfl hn, ?_⟩) hw
  cases fuel with
  | zero => exact ⟨he, h'⟩
  | succ fuel => exact ⟨fun _ => h', by rw [he]; simp⟩

/-- The beginning. -/
theorem u_region {id : Nat} {a : Act} {w : World} (S : World → Prop) (st : Nat) (hm : P.follows .mixedOrders = true) (h1 : Region.noSelect ops = true) (h2 : Region.sinkB .any ops st = true) (h3 : Region.chainB .any ops st = true) (h4 : st + 1 = ops.size)
    (hS : S w.drew) (h : U P .any ops Q S st ops.size (Array.replicate ops.size false) a w.drew) : (Code.region id ops true).wp P Q a w :=
  wp_region_any hm (any_of_u _ _ _ _ (h ⟨h1, h2, h3, h4⟩
    ⟨by simp, fun j oj _ hl => (by rw [getD_replicate_false] at hl; cases hl), fun t _ ht => getD_in (by simpa using ht) (getD_replicate_false _ _)⟩ hS))
end
end Go.Proofs.Ytkimldeagndgjaa

/- The index of IDs: a map with keys that are structs, and a count: words. -/
namespace Go.Proofs.Ytkimldeagndgjaa
set_option linter.unusedVariables false
set_option linter.unusedSimpArgs false
open Go.RowKit Go.ChangeMaps

def keyV (id : Int) : Value := .agg #[.int .i64 0, .int .i64 id]
/-- Block b is a map of these entries. -/
def MBlk (w : World) (b : Nat) (es : Array MapEntry) (clock : Nat) : Prop := w.heap[b]? = some (.map es clock)
section
variable {a w : World} {S : List Nat} {b clock : Nat} {es : Array MapEntry}
theorem MBlk.via (hf : Fr S a w) (hg : b ∉ S) (h : MBlk a b es clock) : MBlk w b es clock := (hf.block b (Array.getElem?_eq_some_iff.1 h).1 hg).trans h
theorem MBlk.lt (h : MBlk w b es clock) : b < w.heap.size := (Array.getElem?_eq_some_iff.1 h).1
theorem MBlk.ne {g : Nat} {t : TypeId} {cs : Array Value} (h : MBlk w b es clock) (h' : Blk w g t cs) : b ≠ g := by
  rintro rfl
  unfold MBlk at h; unfold Blk at h'
  rw [h] at h'; cases h'
theorem MBlk.set (h : MBlk w b es clock) (es' : Array MapEntry) (clock' : Nat) : MBlk (setBlock w b (.map es' clock')) b es' clock' := heap_setBlock_same h _
theorem MBlk.fr (h : MBlk w b es clock) (o : Obj) : Fr [b] w (setBlock w b o) :=
  ⟨rfl, rfl, rfl, by simp [setBlock], fun k _ hk => heap_setBlock_other h o (by simpa using hk)⟩
end

theorem check_key (w : World) (e : Bool) (id : Int) : (Instr.checkKey e 10000 148 (keyV id)).run Try.prog w = .ok () w := by kernel_rfl
theorem check_int (w : World) (e : Bool) (id : Int) : (Instr.checkKey e 10000 3 (.int .i64 id)).run Try.prog w = .ok () w := by kernel_rfl
theorem equal_key (w : World) (a b : Int) : (Op.equal 148 (keyV a) (keyV b)).run Try.prog w = .ok (a == b) w := by
  unfold Op.equal Op.maxDepth keyV
  rw [run_equalIn_agg _ _ _ _ _ (by kernel_rfl) (by kernel_rfl)]
  go_simp
  by_cases h : a = b <;> simp [h]
theorem zero_int (w : World) : (zeroValue 3).run Try.prog w = .ok (.int .i64 0) w := by kernel_rfl

abbrev Ent := Int × Nat × Nat
def ent (p : Ent) : MapEntry := ⟨keyV p.1, .int .i64 p.2.1, p.2.2⟩
def posE (id : Int) : List Ent → Nat → Option (Nat × Value)
  | [], _ => none
  | p :: r, i => if id == p.1 then some (i, .int .i64 p.2.1) else posE id r (i + 1)
theorem find_asking (w : World) (id : Int) : ∀ (l : List Ent) (i : Nat), (Instr.findAsking 148 (keyV id) (l.map ent) i).run Try.prog w = .ok (posE id l i) w
  | [], i => by simp [Instr.findAsking, posE]
  | p :: r, i => by
    simp only [List.map_cons, Instr.findAsking, Sem.run_bind, ent, equal_key, Result.andThen_ok, posE]
    split
    · simp
    · exact find_asking w id r (i + 1)
theorem und_key : ∃ fs, Try.prog.underlying 148 = some (.struct fs) := by
  refine ⟨Try.prog.fieldsOf 148, ?_⟩
  kernel_rfl
theorem find_key (w : World) (id : Int) (l : List Ent) : (Instr.findKey 148 (keyV id) (l.map ent)).run Try.prog w = .ok (posE id l 0) w := by
  obtain ⟨fs, hu⟩ := und_key
  unfold Instr.findKey
  rw [Sem.run_bind, run_underlying hu]
  cases l with
  | nil => simp [Instr.findNow, posE]
  | cons p r =>
    simp only [List.map_cons, Instr.findNow, Instr.sameNow, Result.andThen_ok]
    exact find_asking w id (p :: r) 0
theorem posE_none {id : Int} : ∀ {l : List Ent} {i : Nat}, (∀ p ∈ l, p.1 ≠ id) → posE id l i = none
  | [], _, _ => rfl
  | p :: r, i, h => by
    have h1 := h p (by simp)
    unfold posE
    rw [if_neg (by simpa using fun e => h1 e.symm)]
    exact posE_none fun q hq => h q (by simp [hq])
theorem posE_some {id : Int} {s b : Nat} : ∀ {l1 : List Ent} {l2 : List Ent} {i : Nat}, (∀ p ∈ l1, p.1 ≠ id) → posE id (l1 ++ (id, s, b) :: l2) i = some (i + l1.length, .int .i64 s)
  | [], _, _, _ => by simp [posE]
  | p :: r, l2, i, h => by
    have h1 := h p (by simp)
    simp only [List.cons_append]
    unfold posE
    rw [if_neg (by simpa using fun e => h1 e.symm), posE_some fun q hq => h q (by simp [hq])]
    simp; omega

theorem lookS (w : World) (b : Nat) (l : List Ent) (clock : Nat) (hb : MBlk w b (l.map ent).toArray clock) (id : Int) :
    (Instr.lookup 196 (.map (some b)) (keyV id) true).run Try.prog w = .ok (match posE id l 0 with | some (_, v) => .tuple #[v, .bool true] | none => .tuple #[.int .i64 0, .bool false]) w := by
  simp only [Instr.lookup, Sem.run_bind, run_underlying Try.underlying196, Result.andThen_ok, MapKept.run_getObj_map hb, Sem.run_pure, check_key, find_key]
  cases posE id l 0 with
  | none => simp [zero_int]
  | some p => simp
theorem updS (w : World) (b : Nat) (l : List Ent) (clock : Nat) (hb : MBlk w b (l.map ent).toArray clock) (id : Int) (s : Nat) (hn : ∀ p ∈ l, p.1 ≠ id) :
    (Instr.mapUpdate 196 (.map (some b)) (keyV id) (.int .i64 s)).run Try.prog w = .ok () (setBlock w b (.map ((l ++ [(id, s, clock)]).map ent).toArray (clock + 1))) := by
  simp only [Instr.mapUpdate, Sem.run_bind, run_underlying Try.underlying196, Result.andThen_ok, MapKept.run_getObj_map hb, check_key, find_key, posE_none hn, MapKept.run_setObj_map _ hb]
  simp [setBlock, ent]
theorem delS (w : World) (b : Nat) (l1 l2 : List Ent) (clock : Nat) (id : Int) (s n : Nat) (hb : MBlk w b ((l1 ++ (id, s, n) :: l2).map ent).toArray clock) (hn : ∀ p ∈ l1, p.1 ≠ id) (ty : TypeId) :
    (Builtin.delete_ #[196, 148] ty #[.map (some b), keyV id]).run Try.prog w = .ok (.tuple #[]) (setBlock w b (.map ((l1 ++ l2).map ent).toArray clock)) := by
  have e : (((l1 ++ (id, s, n) :: l2).map ent).toArray.eraseIdxIfInBounds l1.length) = ((l1 ++ l2).map ent).toArray := by
    unfold Array.eraseIdxIfInBounds
    rw [dif_pos (by simp)]
    simp [List.eraseIdx_append_of_length_le]
  simp only [Builtin.delete_, List.getElem?_toArray, List.getElem?_cons_zero, List.getElem?_cons_succ, Sem.run_bind, run_underlying Try.underlying196, Result.andThen_ok, MapKept.run_getObj_map hb, check_key, find_key, posE_some hn, Nat.zero_add, MapKept.run_setObj_map _ hb, e, Sem.run_pure]
  simp [setBlock]
/-- .. the count: a map of one entry at most. -/
def cntE (n born : Nat) : Array MapEntry := if n = 0 then #[] else #[⟨.int .i64 0, .int .i64 n, born⟩]
theorem lookC (w : World) (b n born clock : Nat) (hb : MBlk w b (cntE n born) clock) :
    (Instr.lookup 197 (.map (some b)) (.int .i64 0) false).run Try.prog w = .ok (.int .i64 n) w := by
  by_cases hn : n = 0
  · subst hn
    simp only [Instr.lookup, Sem.run_bind, run_underlying Try.underlying197, Result.andThen_ok, MapKept.run_getObj_map hb, Sem.run_pure, check_int, Instr.findKey, run_underlying Try.underlying3]
    simp [cntE, Instr.findNow, zero_int]
  · simp only [Instr.lookup, Sem.run_bind, run_underlying Try.underlying197, Result.andThen_ok, MapKept.run_getObj_map hb, Sem.run_pure, check_int, Instr.findKey, run_underlying Try.underlying3]
    simp [cntE, hn, Instr.findNow, Instr.sameNow]
theorem updC (w : World) (b n born clock : Nat) (hb : MBlk w b (cntE n born) clock) (k : Nat) (hk : k ≠ 0) :
    ∃ born' clock', (Instr.mapUpdate 197 (.map (some b)) (.int .i64 0) (.int .i64 k)).run Try.prog w = .ok () (setBlock w b (.map (cntE k born') clock')) := by
  by_cases hn : n = 0
  · subst hn
    refine ⟨clock, clock + 1, ?_⟩
    simp only [Instr.mapUpdate, Sem.run_bind, run_underlying Try.underlying197, Result.andThen_ok, MapKept.run_getObj_map hb, check_int, Instr.findKey, run_underlying Try.underlying3]
    simp [cntE, Instr.findNow, MapKept.run_setObj_map _ hb, setBlock, hk]
  · refine ⟨born, clock, ?_⟩
    simp only [Instr.mapUpdate, Sem.run_bind, run_underlying Try.underlying197, Result.andThen_ok, MapKept.run_getObj_map hb, check_int, Instr.findKey, run_underlying Try.underlying3]
    simp [cntE, hn, Instr.findNow, Instr.sameNow, Instr.keyThatStays, Instr.sameBits, MapKept.run_setObj_map _ hb, setBlock, hk]
/-- .. a count of 0, on its way to be deleted. -/
theorem updC0 (w : World) (b n born clock : Nat) (hb : MBlk w b (cntE n born) clock) (hn : n ≠ 0) :
    (Instr.mapUpdate 197 (.map (some b)) (.int .i64 0) (.int .i64 0)).run Try.prog w = .ok () (setBlock w b (.map #[⟨.int .i64 0, .int .i64 0, born⟩] clock)) := by
  unfold cntE at hb
  rw [if_neg hn] at hb
  simp only [Instr.mapUpdate, Sem.run_bind, run_underlying Try.underlying197, Result.andThen_ok, MapKept.run_getObj_map hb, check_int, Instr.findKey, run_underlying Try.underlying3]
  simp [Instr.findNow, Instr.sameNow, Instr.keyThatStays, Instr.sameBits, MapKept.run_setObj_map _ hb, setBlock]
theorem lookC0 (w : World) (b born clock : Nat) (hb : MBlk w b #[⟨.int .i64 0, .int .i64 0, born⟩] clock) :
    (Instr.lookup 197 (.map (some b)) (.int .i64 0) false).run Try.prog w = .ok (.int .i64 0) w := by
  simp only [Instr.lookup, Sem.run_bind, run_underlying Try.underlying197, Result.andThen_ok, MapKept.run_getObj_map hb, Sem.run_pure, check_int, Instr.findKey, run_underlying Try.underlying3]
  simp [Instr.findNow, Instr.sameNow]
theorem delC0 (w : World) (b born clock : Nat) (hb : MBlk w b #[⟨.int .i64 0, .int .i64 0, born⟩] clock) (ty : TypeId) :
    (Builtin.delete_ #[197, 3] ty #[.map (some b), .int .i64 0]).run Try.prog w = .ok (.tuple #[]) (setBlock w b (.map (cntE 0 0) clock)) := by
  simp only [Builtin.delete_, List.getElem?_toArray, List.getElem?_cons_zero, List.getElem?_cons_succ, Sem.run_bind, run_underlying Try.underlying197, Result.andThen_ok, MapKept.run_getObj_map hb, check_int, Instr.findKey, run_underlying Try.underlying3]
  simp [Instr.findNow, Instr.sameNow, MapKept.run_setObj_map _ hb, setBlock, cntE, Array.eraseIdxIfInBounds]

section
variable {P : Program} {ops : Array Oper} {rest : List Oper} {o : Oper} {a : Act} {w w' : World} {Q : Exit → Act → World → Prop}
theorem wpList_update (hgd : o.guard = none) (t : TypeId) (x y z : Operand) (ho : o.op = .mapUpdate t x y z) (m k v : Value) (hm : a.eval x = m) (hk : a.eval y = k) (hv : a.eval z = v)
    (hrun : (Instr.mapUpdate t m k v).run P w = .ok () w') (h : wpList P ops Q rest (a.put o.dst undef) w') : wpList P ops Q (o :: rest) a w := by
  refine wpList_plain hgd fun Kq hKq => ?_
  unfold Oper.wp
  simp [execOp, ho, hm, hk, hv, hrun, Result.andThen]
  exact hKq _ _ h
theorem wpList_delete (hgd : o.guard = none) (x y : Operand) (t1 t2 : TypeId) (ho : o.op = .call { callee := .builtin .delete, args := #[x, y], argTypes := #[t1, t2] }) (m k : Value) (hm : a.eval x = m) (hk : a.eval y = k)
    (hrun : (Builtin.delete_ #[t1, t2] o.type #[m, k]).run P w = .ok (.tuple #[]) w') (h : wpList P ops Q rest (a.put o.dst (.tuple #[])) w') : wpList P ops Q (o :: rest) a w := by
  refine wpList_plain hgd fun Kq hKq => ?_
  unfold Oper.wp execOp
  simp only [ho, resolve, invoke, builtin, Sem.run_bind, Sem.run_pure, Result.andThen_ok, List.map_toArray, List.map_cons, List.map_nil, hm, hk, hrun]
  exact hKq _ _ h
end
end Go.Proofs.Ytkimldeagndgjaa

/- The index of IDs: the methods, walked. -/
namespace Go.Proofs.Ytkimldeagndgjaa
set_option linter.unusedVariables false
set_option linter.unusedSimpArgs false
open Go.RowKit Go.ChangeMaps

/-- The index in memory: bi the struct, bs the slots, bm the count; m says where each ID is, n how many there are. -/
structure IxI (w : World) (bi bs bm : Nat) (m : Int → Option Nat) (n : Nat) : Prop where
  i : Blk w bi 199 #[.map (some bs), .map (some bm)]
  s : ∃ l cl, MBlk w bs (List.map ent l).toArray cl ∧ l.length = n ∧ (l.map (·.1)).Nodup ∧ ∀ id s, m id = some s ↔ ∃ b, (id, s, b) ∈ l
  c : ∃ bo cm, MBlk w bm (cntE n bo) cm
  ne : bs ≠ bm
  small : n ≤ 1000

theorem IxI.look {w : World} {bi bs bm n : Nat} {m : Int → Option Nat} (h : IxI w bi bs bm m n) {W : World} (hf : Fr [] w W) (id : Int) :
    (Instr.lookup 196 (.map (some bs)) (.agg #[.int .i64 0, .int .i64 id]) true).run Try.prog W = .ok (.tuple #[.int .i64 ((m id).getD 0 : Nat), .bool (m id).isSome]) W := by
  obtain ⟨l, cl, hb, _, hnd, hm⟩ := h.s
  have e := lookS W bs l cl (hb.via hf (by simp)) id
  unfold keyV at e
  rw [e]
  cases hmi : m id with
  | none =>
    have hn : ∀ p ∈ l, p.1 ≠ id := by
      rintro ⟨a, s, b⟩ hp rfl
      have := (hm a s).2 ⟨b, hp⟩
      rw [hmi] at this; cases this
    rw [posE_none hn]; rfl
  | some s =>
    obtain ⟨b, hp⟩ := (hm id s).1 hmi
    obtain ⟨l1, l2, rfl⟩ := List.append_of_mem hp
    have hn : ∀ p ∈ l1, p.1 ≠ id := by
      intro p hp e
      simp only [List.map_append, List.map_cons, List.nodup_append, List.mem_map, List.mem_cons] at hnd
      exact hnd.2.2 p.1 ⟨p, hp, rfl⟩ id (.inl rfl) e
    rw [posE_some hn]; rfl
theorem IxI.fr {w W : World} {bi bs bm n : Nat} {m : Int → Option Nat} (h : IxI w bi bs bm m n) {S : List Nat} (hf : Fr S w W) (h1 : bi ∉ S) (h2 : bs ∉ S) (h3 : bm ∉ S) : IxI W bi bs bm m n := by
  obtain ⟨l, cl, hb, hr⟩ := h.s
  obtain ⟨bo, cm, hc⟩ := h.c
  exact ⟨Blk.via hf h1 h.i, ⟨l, cl, hb.via hf h2, hr⟩, ⟨bo, cm, hc.via hf h3⟩, h.ne, h.small⟩

theorem ixGet_any (w : World) (bi bs bm n : Nat) (m : Int → Option Nat) (h : IxI w bi bs bm m n) (id : Int) :
    Calls Try.prog 84 #[.pointer (some ⟨bi, 0, none⟩), .agg #[.int .i64 0, .int .i64 id]] w fun e w' => e = .returned (.tuple #[.int .i64 ((m id).getD 0 : Nat), .bool (m id).isSome]) ∧ Fr [] w w' := by
  go_enter Try.func84, Try.ntmps84
  go_wp2_with fail
  refine wp_name (fun W0 hW => ?_)
  have B1 := Blk.box0 hW
  have F0 : Fr [] w W0 := Fr.eqv hW (by with_reducible repeat (first | exact Fr.refl _ _ | assumption | apply Fr.drew | apply Fr.drewN | apply Fr.alloc | (apply Fr.step; assumption; (intro _ h; (first | exact h | (focus (simp_all; done))))) | (apply Fr.setIn; (first | exact List.mem_cons_self | exact List.mem_cons_of_mem _ List.mem_cons_self | exact List.mem_cons_of_mem _ (List.mem_cons_of_mem _ List.mem_cons_self) | exact List.mem_cons_of_mem _ (List.mem_cons_of_mem _ (List.mem_cons_of_mem _ List.mem_cons_self)))) | (apply Fr.setNew; (first | omega | (simp; omega)))))
  have H0 := h.fr F0 (by simp) (by simp) (by simp)
  have BI := H0.i
  clear hW
  refine wp_region_soft (by kernel_rfl) (by kernel_rfl) ?_; (repeat (refine wpQuiet_step (fun K hK => ?_); (first | ((fail); go_simp; refine hK _ ?_; clear hK K) | (apply soft_do; (rfl); (focus (intro W hC; (have q1 := (Blk.via hC (by simp) BI).cell; have q2 := (Blk.via hC (by simp) B1).cell; have q3 := H0.look hC id); go_simp; (first | (fail) | done | rfl | exact ⟨rfl, rfl⟩))); (go_simp; refine hK _ ?_; clear hK K)) | (apply soft_skip; (rfl); (go_simp; refine hK _ ?_; clear hK K))))); refine wpQuiet_nil ?_
  intro w1 F1
  go_wp2_with fail
  go_ret2
  exact ⟨rfl, F0.trans F1⟩

theorem ixGet_nil (w : World) (id : Int) :
    Calls Try.prog 84 #[.pointer none, .agg #[.int .i64 0, .int .i64 id]] w fun e w' => e = .returned (.tuple #[.int .i64 0, .bool false]) ∧ Fr [] w w' := by
  go_enter Try.func84, Try.ntmps84
  go_wp2_with fail
  go_ret2
  exact ⟨rfl, by with_reducible repeat (first | exact Fr.refl _ _ | assumption | apply Fr.drew | apply Fr.drewN | apply Fr.alloc | (apply Fr.step; assumption; (intro _ h; (first | exact h | (focus (simp_all; done))))) | (apply Fr.setIn; (first | exact List.mem_cons_self | exact List.mem_cons_of_mem _ List.mem_cons_self | exact List.mem_cons_of_mem _ (List.mem_cons_of_mem _ List.mem_cons_self) | exact List.mem_cons_of_mem _ (List.mem_cons_of_mem _ (List.mem_cons_of_mem _ List.mem_cons_self)))) | (apply Fr.setNew; (first | omega | (simp; omega))))⟩

theorem ixNew_any (w : World) : Calls Try.prog 80 #[] w fun e w' => e = .returned (.pointer (some ⟨w.heap.size + 2, 0, none⟩)) ∧ Fr [] w w' ∧ IxI w' (w.heap.size + 2) w.heap.size (w.heap.size + 1) (fun _ => none) 0 := by
  have hmk := fun t w => run_makeMap (P := Try.prog) t w
  go_enter Try.func80, Try.ntmps80
  go_wp2_with fail
  go_ret
  refine ⟨rfl, by with_reducible repeat (first | exact Fr.refl _ _ | assumption | apply Fr.drew | apply Fr.drewN | apply Fr.alloc | (apply Fr.step; assumption; (intro _ h; (first | exact h | (focus (simp_all; done))))) | (apply Fr.setIn; (first | exact List.mem_cons_self | exact List.mem_cons_of_mem _ List.mem_cons_self | exact List.mem_cons_of_mem _ (List.mem_cons_of_mem _ List.mem_cons_self) | exact List.mem_cons_of_mem _ (List.mem_cons_of_mem _ (List.mem_cons_of_mem _ List.mem_cons_self)))) | (apply Fr.setNew; (first | omega | (simp; omega)))), ?_, ⟨[], 0, ?_, rfl, by simp, by simp⟩, ⟨0, 0, ?_⟩, by omega, by omega⟩
  · with_reducible repeat (first | exact Blk.new _ _ _ | (apply Blk.newAt rfl; (first | (simp; done) | (simp; omega))) | assumption | exact Blk.new _ _ _ | apply Blk.drew | apply Blk.drewN | apply Blk.alloc | (apply Blk.off; (first | assumption | omega)) | (apply Blk.put; omega) | (apply Blk.put0; omega) | apply Blk.same)
  · unfold MBlk
    rw [Below.heap_alloc _ _ _ (by simp; omega), Below.heap_alloc _ _ _ (by simp)]
    exact heap_alloc_new _ _
  · unfold MBlk
    rw [Below.heap_alloc _ _ _ (by simp)]
    simpa [cntE] using heap_alloc_new (w.alloc (.map #[] 0)) (.map #[] 0)

def updm (m : Int → Option Nat) (id : Int) (s : Option Nat) : Int → Option Nat := fun j => if j = id then s else m j

set_option maxHeartbeats 1000000 in
theorem ixPut_new (w : World) (bi bs bm n : Nat) (m : Int → Option Nat) (h : IxI w bi bs bm m n) (id : Int) (s : Nat) (hid : m id = none) (hs : s ≤ 1000) (hn : n < 1000) :
    Calls Try.prog 89 #[.pointer (some ⟨bi, 0, none⟩), .agg #[.int .i64 0, .int .i64 id], .int .i64 s] w fun e w' => e = .returned (.bool true) ∧ Fr [bs, bm] w w' ∧ IxI w' bi bs bm (updm m id (some s)) (n + 1) := by
  go_enter Try.func89, Try.ntmps89
  go_wp2_with fail
  refine wp_name (fun W0 hW => ?_)
  have B1 := Blk.box0 hW
  have F0 : Fr [] w W0 := Fr.eqv hW (by with_reducible repeat (first | exact Fr.refl _ _ | assumption | apply Fr.drew | apply Fr.drewN | apply Fr.alloc | (apply Fr.step; assumption; (intro _ h; (first | exact h | (focus (simp_all; done))))) | (apply Fr.setIn; (first | exact List.mem_cons_self | exact List.mem_cons_of_mem _ List.mem_cons_self | exact List.mem_cons_of_mem _ (List.mem_cons_of_mem _ List.mem_cons_self) | exact List.mem_cons_of_mem _ (List.mem_cons_of_mem _ (List.mem_cons_of_mem _ List.mem_cons_self)))) | (apply Fr.setNew; (first | omega | (simp; omega)))))
  have H0 := h.fr F0 (by simp) (by simp) (by simp)
  have BI := H0.i
  clear hW
  refine wp_region_soft (by kernel_rfl) (by kernel_rfl) ?_; (repeat (refine wpQuiet_step (fun K hK => ?_); (first | ((fail); go_simp; refine hK _ ?_; clear hK K) | (apply soft_do; (rfl); (focus (intro W hC; (have q1 := (Blk.via hC (by simp) BI).cell; have q2 := (Blk.via hC (by simp) B1).cell; have q3 := H0.look hC id; rw [hid] at q3); go_simp; (first | (fail) | done | rfl | exact ⟨rfl, rfl⟩))); (go_simp; refine hK _ ?_; clear hK K)) | (apply soft_skip; (rfl); (go_simp; refine hK _ ?_; clear hK K))))); refine wpQuiet_nil ?_
  intro w1 F1
  have BI1 := Blk.via F1 (by simp) BI
  have B11 := Blk.via F1 (by simp) B1
  have H1 := H0.fr F1 (by simp) (by simp) (by simp)
  go_wp2_with fail
  obtain ⟨l, cl, hb, hln, hnd, hm⟩ := H1.s
  obtain ⟨bo, cm, hc⟩ := H1.c
  have hnl : ∀ p ∈ l, p.1 ≠ id := by
    rintro ⟨a, s, b⟩ hp rfl
    have := (hm a s).2 ⟨b, hp⟩
    rw [hid] at this; cases this
  refine u_region (S := fun w' => w'.cell? ⟨bi, 0, none⟩ = some (.map (some bs)) ∧ w'.cell? ⟨w.heap.size, 0, none⟩ = some (.int .i64 0) ∧ w'.cell? ⟨w.heap.size, 1, none⟩ = some (.int .i64 id)) 6 (by kernel_rfl) (by kernel_rfl) (by kernel_rfl) (by kernel_rfl) (by kernel_rfl) ⟨(BI1.drew.cell 0).trans rfl, (B11.drew.cell 0).trans rfl, (B11.drew.cell 1).trans rfl⟩ ?_
  (refine u_take 0 (v := ?_) rfl rfl (by kernel_rfl) (by kernel_rfl) (fun _ _ _ h => h) (Or.inl ⟨by rfl, ?_⟩) ?_; rotate_left; (focus (intro wz hSw; (try dsimp only at hSw); go_simp; (try with_reducible rfl))); (try simp only [Act.put, List.getElem_toArray, List.getElem_cons_succ, List.getElem_cons_zero, List.setIfInBounds_toArray, List.set_cons_zero, List.set_cons_succ]))
  (refine u_take 1 (v := ?_) rfl rfl (by kernel_rfl) (by kernel_rfl) (fun _ _ _ h => h) (Or.inl ⟨by rfl, ?_⟩) ?_; rotate_left; (focus (intro wz hSw; (try dsimp only at hSw); go_simp; (try with_reducible rfl))); (try simp only [Act.put, List.getElem_toArray, List.getElem_cons_succ, List.getElem_cons_zero, List.setIfInBounds_toArray, List.set_cons_zero, List.set_cons_succ]))
  (refine u_take 2 (v := ?_) rfl rfl (by kernel_rfl) (by kernel_rfl) (fun _ _ _ h => h) (Or.inl ⟨by rfl, ?_⟩) ?_; rotate_left; (focus (intro wz hSw; (try dsimp only at hSw); go_simp; (try with_reducible rfl))); (try simp only [Act.put, List.getElem_toArray, List.getElem_cons_succ, List.getElem_cons_zero, List.setIfInBounds_toArray, List.set_cons_zero, List.set_cons_succ]))
  (refine u_take 3 (v := ?_) rfl rfl (by kernel_rfl) (by kernel_rfl) (fun _ _ _ h => h) (Or.inl ⟨by rfl, ?_⟩) ?_; rotate_left; (focus (intro wz hSw; (try dsimp only at hSw); go_simp; (try with_reducible rfl))); (try simp only [Act.put, List.getElem_toArray, List.getElem_cons_succ, List.getElem_cons_zero, List.setIfInBounds_toArray, List.set_cons_zero, List.set_cons_succ]))
  (refine u_take 4 (v := ?_) rfl rfl (by kernel_rfl) (by kernel_rfl) (fun _ _ _ h => h) (Or.inl ⟨by rfl, ?_⟩) ?_; rotate_left; (focus (intro wz hSw; (try dsimp only at hSw); go_simp; (try with_reducible rfl))); (try simp only [Act.put, List.getElem_toArray, List.getElem_cons_succ, List.getElem_cons_zero, List.setIfInBounds_toArray, List.set_cons_zero, List.set_cons_succ]))
  (refine u_take 5 (v := ?_) rfl rfl (by kernel_rfl) (by kernel_rfl) (fun _ _ _ h => h) (Or.inl ⟨by rfl, ?_⟩) ?_; rotate_left; (focus (intro wz hSw; (try dsimp only at hSw); go_simp; (try with_reducible rfl))); (try simp only [Act.put, List.getElem_toArray, List.getElem_cons_succ, List.getElem_cons_zero, List.setIfInBounds_toArray, List.set_cons_zero, List.set_cons_succ]))
  refine u_last (by kernel_rfl) rfl (by kernel_rfl) ?_
  refine wpList_update rfl _ (.tmp 24) (.tmp 25) (.tmp 26) rfl (.map (some bs)) (keyV id) (.int .i64 s) rfl rfl rfl (updS w1.drew bs l cl hb id s hnl) ?_
  have hb1 : MBlk w1.drew bs _ cl := hb
  have M2 := hb1.set (List.map ent (l ++ [(id, s, cl)])).toArray (cl + 1)
  have F2 : Fr [bs] w1 _ := ((Fr.refl [] w1).drew.mono (by simp)).trans (hb1.fr (.map (List.map ent (l ++ [(id, s, cl)])).toArray (cl + 1)))
  generalize setBlock w1.drew bs _ = w2 at M2 F2 ⊢
  have n1 : bi ≠ bs := fun e => hb.ne BI1 e.symm
  have n2 : w.heap.size ≠ bs := fun e => hb.ne B11 e.symm
  have BI2 := Blk.via F2 (by simpa using n1) BI1
  have B12 := Blk.via F2 (by simpa using n2) B11
  have C2 : MBlk w2 bm _ cm := hc.via F2 (by simpa using H1.ne.symm)
  have hF02 : Fr [bs] w w2 := ((F0.trans F1).mono (by simp)).trans F2
  clear BI1 B11 hb hb1 hc H1 BI B1 H0 F0 F1 F2
  refine wpList_nil ?_
  go_wp2_with fail
  have hwr : IntKind.i64.wrap ((n : Int) + 1) = ((n + 1 : Nat) : Int) := by
    rw [IntWalk.i64_in _ (by omega)]; simp
  refine u_region (S := fun w' => w'.cell? ⟨bi, 1, none⟩ = some (.map (some bm)) ∧ w'.cell? ⟨w.heap.size, 0, none⟩ = some (.int .i64 0) ∧ (Instr.lookup 197 (.map (some bm)) (.int .i64 0) false).run Try.prog w' = .ok (.int .i64 n) w') 8 (by kernel_rfl) (by kernel_rfl) (by kernel_rfl) (by kernel_rfl) (by kernel_rfl) ⟨(BI2.drew.cell 1).trans rfl, (B12.drew.cell 0).trans rfl, lookC w2.drew bm n bo cm C2⟩ ?_
  (refine u_take 0 (v := ?_) rfl rfl (by kernel_rfl) (by kernel_rfl) (fun _ _ _ h => h) (Or.inl ⟨by rfl, ?_⟩) ?_; rotate_left; (focus (intro wz hSw; (try dsimp only at hSw); go_simp; (try with_reducible rfl))); (try simp only [Act.put, List.getElem_toArray, List.getElem_cons_succ, List.getElem_cons_zero, List.setIfInBounds_toArray, List.set_cons_zero, List.set_cons_succ]))
  (refine u_take 1 (v := ?_) rfl rfl (by kernel_rfl) (by kernel_rfl) (fun _ _ _ h => h) (Or.inl ⟨by rfl, ?_⟩) ?_; rotate_left; (focus (intro wz hSw; (try dsimp only at hSw); go_simp; (try with_reducible rfl))); (try simp only [Act.put, List.getElem_toArray, List.getElem_cons_succ, List.getElem_cons_zero, List.setIfInBounds_toArray, List.set_cons_zero, List.set_cons_succ]))
  (refine u_take 2 (v := ?_) rfl rfl (by kernel_rfl) (by kernel_rfl) (fun _ _ _ h => h) (Or.inl ⟨by rfl, ?_⟩) ?_; rotate_left; (focus (intro wz hSw; (try dsimp only at hSw); go_simp; (try with_reducible rfl))); (try simp only [Act.put, List.getElem_toArray, List.getElem_cons_succ, List.getElem_cons_zero, List.setIfInBounds_toArray, List.set_cons_zero, List.set_cons_succ]))
  (refine u_take 3 (v := ?_) rfl rfl (by kernel_rfl) (by kernel_rfl) (fun _ _ _ h => h) (Or.inl ⟨by rfl, ?_⟩) ?_; rotate_left; (focus (intro wz hSw; (try dsimp only at hSw); go_simp; (try with_reducible rfl))); (try simp only [Act.put, List.getElem_toArray, List.getElem_cons_succ, List.getElem_cons_zero, List.setIfInBounds_toArray, List.set_cons_zero, List.set_cons_succ]))
  (refine u_take 4 (v := ?_) rfl rfl (by kernel_rfl) (by kernel_rfl) (fun _ _ _ h => h) (Or.inl ⟨by rfl, ?_⟩) ?_; rotate_left; (focus (intro wz hSw; (try dsimp only at hSw); go_simp; (try with_reducible rfl))); (try simp only [Act.put, List.getElem_toArray, List.getElem_cons_succ, List.getElem_cons_zero, List.setIfInBounds_toArray, List.set_cons_zero, List.set_cons_succ]))
  (refine u_take 5 (v := ?_) rfl rfl (by kernel_rfl) (by kernel_rfl) (fun _ _ _ h => h) (Or.inl ⟨by rfl, ?_⟩) ?_; rotate_left; (focus (intro wz hSw; (try dsimp only at hSw); go_simp; (try with_reducible rfl))); (try simp only [Act.put, List.getElem_toArray, List.getElem_cons_succ, List.getElem_cons_zero, List.setIfInBounds_toArray, List.set_cons_zero, List.set_cons_succ]))
  (refine u_take 6 (v := ?_) rfl rfl (by kernel_rfl) (by kernel_rfl) (fun _ _ _ h => h) (Or.inl ⟨by rfl, ?_⟩) ?_; rotate_left; (focus (intro wz hSw; (try dsimp only at hSw); go_simp; (try with_reducible rfl))); (try simp only [Act.put, List.getElem_toArray, List.getElem_cons_succ, List.getElem_cons_zero, List.setIfInBounds_toArray, List.set_cons_zero, List.set_cons_succ]))
  (refine u_take 7 (v := ?_) rfl rfl (by kernel_rfl) (by kernel_rfl) (fun _ _ _ h => h) (Or.inl ⟨by rfl, ?_⟩) ?_; rotate_left; (focus (intro wz hSw; (try dsimp only at hSw); go_simp; (try with_reducible rfl))); (try simp only [Act.put, List.getElem_toArray, List.getElem_cons_succ, List.getElem_cons_zero, List.setIfInBounds_toArray, List.set_cons_zero, List.set_cons_succ]))
  refine u_last (by kernel_rfl) rfl (by kernel_rfl) ?_
  obtain ⟨bo', cm', hup⟩ := updC w2.drew bm n bo cm C2 (n + 1) (by omega)
  refine wpList_update rfl _ (.tmp 30) (.tmp 32) (.tmp 34) rfl (.map (some bm)) (.int .i64 0) (.int .i64 (n + 1 : Nat)) rfl rfl rfl hup ?_
  have C2' : MBlk w2.drew bm _ cm := C2
  have M3 := C2'.set (cntE (n + 1) bo') cm'
  have F3 : Fr [bm] w2 _ := ((Fr.refl [] w2).drew.mono (by simp)).trans (C2'.fr (.map (cntE (n + 1) bo') cm'))
  generalize setBlock w2.drew bm _ = w3 at M3 F3 ⊢
  have n3 : bi ≠ bm := fun e => C2.ne BI2 e.symm
  have BI3 := Blk.via F3 (by simpa using n3) BI2
  have M3' := M2.via F3 (by simpa using h.ne)
  have hF03 : Fr [bs, bm] w w3 := (hF02.mono (by simp)).trans (F3.mono (by simp))
  clear hup C2 C2' BI2 B12 F3 hF02 M2
  refine wpList_nil ?_
  go_wp2_with fail
  go_ret
  refine ⟨rfl, hF03, BI3, ⟨_, _, M3', ?_, ?_, ?_⟩, ⟨_, _, M3⟩, h.ne, by omega⟩
  · simp [hln]
  · simp only [List.map_append, List.map_cons, List.map_nil, List.nodup_append]
    refine ⟨hnd, by simp, ?_⟩
    intro a ha b hb
    simp only [List.mem_map] at ha
    obtain ⟨p, hp, rfl⟩ := ha
    simp only [List.mem_singleton] at hb
    rw [hb]; exact hnl p hp
  · intro j t
    unfold updm
    by_cases e : j = id
    · subst e
      rw [if_pos rfl]
      constructor
      · intro e2
        injection e2 with e2
        exact ⟨cl, by simp [e2]⟩
      · rintro ⟨b, hb⟩
        rcases List.mem_append.1 hb with hb | hb
        · exact absurd rfl (hnl _ hb)
        · simp at hb; rw [hb.1]
    · rw [if_neg e, hm j t]
      constructor
      · rintro ⟨b, hb⟩; exact ⟨b, by simp [hb]⟩
      · rintro ⟨b, hb⟩
        rcases List.mem_append.1 hb with hb | hb
        · exact ⟨b, hb⟩
        · simp at hb; exact absurd hb.1 e
end Go.Proofs.Ytkimldeagndgjaa

/- The index of IDs: Drop, walked. -/
namespace Go.Proofs.Ytkimldeagndgjaa
set_option linter.unusedVariables false
set_option linter.unusedSimpArgs false
open Go.RowKit Go.ChangeMaps

theorem calls_named {P : Program} {f : FuncId} {args : Array Value} {w : World} {Q : Ending → World → Prop} (h : ∀ W, W = w → Calls P f args W Q) : Calls P f args w Q := h w rfl
theorem ixDrop_none (w : World) (bi bs bm n : Nat) (m : Int → Option Nat) (h : IxI w bi bs bm m n) (id : Int) (hid : m id = none) :
    Calls Try.prog 139 #[.pointer (some ⟨bi, 0, none⟩), .agg #[.int .i64 0, .int .i64 id]] w fun e w' => e = .returned (.bool false) ∧ Fr [] w w' := by
  go_enter Try.func139, Try.ntmps139
  go_wp2_with fail
  refine (ixGet_any _ bi bs bm n m (h.fr (S := []) (by with_reducible repeat (first | exact Fr.refl _ _ | assumption | apply Fr.drew | apply Fr.drewN | apply Fr.alloc | (apply Fr.step; assumption; (intro _ h; (first | exact h | (focus (simp_all; done))))) | (apply Fr.setIn; (first | exact List.mem_cons_self | exact List.mem_cons_of_mem _ List.mem_cons_self | exact List.mem_cons_of_mem _ (List.mem_cons_of_mem _ List.mem_cons_self) | exact List.mem_cons_of_mem _ (List.mem_cons_of_mem _ (List.mem_cons_of_mem _ List.mem_cons_self)))) | (apply Fr.setNew; (first | omega | (simp; omega))))) (by simp) (by simp) (by simp)) id).mono ?_
  rw [hid]
  rintro e w1 ⟨rfl, F1⟩
  go_wp2_with fail
  go_ret
  exact ⟨rfl, by with_reducible repeat (first | exact Fr.refl _ _ | assumption | apply Fr.drew | apply Fr.drewN | apply Fr.alloc | (apply Fr.step; assumption; (intro _ h; (first | exact h | (focus (simp_all; done))))) | (apply Fr.setIn; (first | exact List.mem_cons_self | exact List.mem_cons_of_mem _ List.mem_cons_self | exact List.mem_cons_of_mem _ (List.mem_cons_of_mem _ List.mem_cons_self) | exact List.mem_cons_of_mem _ (List.mem_cons_of_mem _ (List.mem_cons_of_mem _ List.mem_cons_self)))) | (apply Fr.setNew; (first | omega | (simp; omega))))⟩

theorem pairs_split {l1 l2 : List Ent} {id : Int} {s b : Nat} (hnd : ((l1 ++ (id, s, b) :: l2).map (·.1)).Nodup) : (∀ p ∈ l1, p.1 ≠ id) ∧ (∀ p ∈ l2, p.1 ≠ id) ∧ ((l1 ++ l2).map (·.1)).Nodup := by
  simp only [List.map_append, List.map_cons, List.nodup_append, List.mem_map, List.mem_cons, List.nodup_cons] at hnd ⊢
  refine ⟨fun p hp e => hnd.2.2 p.1 ⟨p, hp, rfl⟩ id (.inl rfl) e, fun p hp e => hnd.2.1.1 ⟨p, hp, e⟩, hnd.1, hnd.2.1.2, ?_⟩
  intro a ha b hb
  exact hnd.2.2 a ha b (.inr hb)

set_option maxHeartbeats 1000000 in
theorem ixDrop_has (w : World) (bi bs bm n : Nat) (m : Int → Option Nat) (h : IxI w bi bs bm m n) (id : Int) (s : Nat) (hid : m id = some s) :
    Calls Try.prog 139 #[.pointer (some ⟨bi, 0, none⟩), .agg #[.int .i64 0, .int .i64 id]] w fun e w' => e = .returned (.bool true) ∧ Fr [bs, bm] w w' ∧ IxI w' bi bs bm (updm m id none) (n - 1) ∧ 1 ≤ n := by
  go_enter Try.func139, Try.ntmps139
  go_wp2_with fail
  refine calls_named (fun W0 hW => ?_)
  have B1 := Blk.box0 hW
  have F0 : Fr [] w W0 := Fr.eqv hW (by with_reducible repeat (first | exact Fr.refl _ _ | assumption | apply Fr.drew | apply Fr.drewN | apply Fr.alloc | (apply Fr.step; assumption; (intro _ h; (first | exact h | (focus (simp_all; done))))) | (apply Fr.setIn; (first | exact List.mem_cons_self | exact List.mem_cons_of_mem _ List.mem_cons_self | exact List.mem_cons_of_mem _ (List.mem_cons_of_mem _ List.mem_cons_self) | exact List.mem_cons_of_mem _ (List.mem_cons_of_mem _ (List.mem_cons_of_mem _ List.mem_cons_self)))) | (apply Fr.setNew; (first | omega | (simp; omega)))))
  have H0 := h.fr F0 (by simp) (by simp) (by simp)
  clear hW
  refine (ixGet_any _ bi bs bm n m H0 id).mono ?_
  rw [hid]
  rintro e w1 ⟨rfl, F1⟩
  have BI1 := Blk.via F1 (by simp) H0.i
  have B11 := Blk.via F1 (by simp) B1
  have H1 := H0.fr F1 (by simp) (by simp) (by simp)
  go_wp2_with fail
  obtain ⟨l, cl, hb, hln, hnd, hm⟩ := H1.s
  obtain ⟨bo, cm, hc⟩ := H1.c
  obtain ⟨b, hp⟩ := (hm id s).1 hid
  obtain ⟨l1, l2, rfl⟩ := List.append_of_mem hp
  obtain ⟨d1, d2, d3⟩ := pairs_split hnd
  have hn0 : 1 ≤ n := by rw [← hln]; simp; omega
  have HL := Lib.hid (show (l1 ++ l2).length = n - 1 by rw [← hln]; simp)
  clear hln
  have hsmall := h.small
  refine u_region (S := fun w' => w'.cell? ⟨bi, 0, none⟩ = some (.map (some bs)) ∧ w'.cell? ⟨w.heap.size, 0, none⟩ = some (.int .i64 0) ∧ w'.cell? ⟨w.heap.size, 1, none⟩ = some (.int .i64 id)) 5 (by kernel_rfl) (by kernel_rfl) (by kernel_rfl) (by kernel_rfl) (by kernel_rfl) ⟨(BI1.drew.cell 0).trans rfl, (B11.drew.cell 0).trans rfl, (B11.drew.cell 1).trans rfl⟩ ?_
  (refine u_take 0 (v := ?_) rfl rfl (by kernel_rfl) (by kernel_rfl) (fun _ _ _ h => h) (Or.inl ⟨by rfl, ?_⟩) ?_; rotate_left; (focus (intro wz hSw; (try dsimp only at hSw); go_simp; (try with_reducible rfl))); (try simp only [Act.put, List.getElem_toArray, List.getElem_cons_succ, List.getElem_cons_zero, List.setIfInBounds_toArray, List.set_cons_zero, List.set_cons_succ]))
  (refine u_take 1 (v := ?_) rfl rfl (by kernel_rfl) (by kernel_rfl) (fun _ _ _ h => h) (Or.inl ⟨by rfl, ?_⟩) ?_; rotate_left; (focus (intro wz hSw; (try dsimp only at hSw); go_simp; (try with_reducible rfl))); (try simp only [Act.put, List.getElem_toArray, List.getElem_cons_succ, List.getElem_cons_zero, List.setIfInBounds_toArray, List.set_cons_zero, List.set_cons_succ]))
  (refine u_take 2 (v := ?_) rfl rfl (by kernel_rfl) (by kernel_rfl) (fun _ _ _ h => h) (Or.inl ⟨by rfl, ?_⟩) ?_; rotate_left; (focus (intro wz hSw; (try dsimp only at hSw); go_simp; (try with_reducible rfl))); (try simp only [Act.put, List.getElem_toArray, List.getElem_cons_succ, List.getElem_cons_zero, List.setIfInBounds_toArray, List.set_cons_zero, List.set_cons_succ]))
  (refine u_take 3 (v := ?_) rfl rfl (by kernel_rfl) (by kernel_rfl) (fun _ _ _ h => h) (Or.inl ⟨by rfl, ?_⟩) ?_; rotate_left; (focus (intro wz hSw; (try dsimp only at hSw); go_simp; (try with_reducible rfl))); (try simp only [Act.put, List.getElem_toArray, List.getElem_cons_succ, List.getElem_cons_zero, List.setIfInBounds_toArray, List.set_cons_zero, List.set_cons_succ]))
  (refine u_take 4 (v := ?_) rfl rfl (by kernel_rfl) (by kernel_rfl) (fun _ _ _ h => h) (Or.inl ⟨by rfl, ?_⟩) ?_; rotate_left; (focus (intro wz hSw; (try dsimp only at hSw); go_simp; (try with_reducible rfl))); (try simp only [Act.put, List.getElem_toArray, List.getElem_cons_succ, List.getElem_cons_zero, List.setIfInBounds_toArray, List.set_cons_zero, List.set_cons_succ]))
  refine u_last (by kernel_rfl) rfl (by kernel_rfl) ?_
  refine wpList_delete rfl (.tmp 18) (.tmp 19) _ _ rfl (.map (some bs)) (keyV id) rfl rfl (delS w1.drew bs l1 l2 cl id s b hb d1 _) ?_
  have hb1 : MBlk w1.drew bs _ cl := hb
  have M2 := hb1.set (List.map ent (l1 ++ l2)).toArray cl
  have F2 : Fr [bs] w1 _ := ((Fr.refl [] w1).drew.mono (by simp)).trans (hb1.fr (.map (List.map ent (l1 ++ l2)).toArray cl))
  generalize setBlock w1.drew bs _ = w2 at M2 F2 ⊢
  have n1 : bi ≠ bs := fun e => hb.ne BI1 e.symm
  have n2 : w.heap.size ≠ bs := fun e => hb.ne B11 e.symm
  have BI2 := Blk.via F2 (by simpa using n1) BI1
  have B12 := Blk.via F2 (by simpa using n2) B11
  have C2 : MBlk w2 bm _ cm := hc.via F2 (by simpa using H1.ne.symm)
  have hF02 : Fr [bs] w w2 := ((F0.trans F1).mono (by simp)).trans F2
  clear BI1 B11 hb hb1 hc H1 B1 H0 F0 F1 F2
  refine wpList_nil ?_
  go_wp2_with fail
  have hwr : IntKind.i64.wrap ((n : Int) - 1) = ((n - 1 : Nat) : Int) := by
    rw [IntWalk.i64_in _ (by omega)]; omega
  refine u_region (S := fun w' => w'.cell? ⟨bi, 1, none⟩ = some (.map (some bm)) ∧ w'.cell? ⟨w.heap.size, 0, none⟩ = some (.int .i64 0) ∧ (Instr.lookup 197 (.map (some bm)) (.int .i64 0) false).run Try.prog w' = .ok (.int .i64 n) w') 8 (by kernel_rfl) (by kernel_rfl) (by kernel_rfl) (by kernel_rfl) (by kernel_rfl) ⟨(BI2.drew.cell 1).trans rfl, (B12.drew.cell 0).trans rfl, lookC w2.drew bm n bo cm C2⟩ ?_
  (refine u_take 0 (v := ?_) rfl rfl (by kernel_rfl) (by kernel_rfl) (fun _ _ _ h => h) (Or.inl ⟨by rfl, ?_⟩) ?_; rotate_left; (focus (intro wz hSw; (try dsimp only at hSw); go_simp; (try with_reducible rfl))); (try simp only [Act.put, List.getElem_toArray, List.getElem_cons_succ, List.getElem_cons_zero, List.setIfInBounds_toArray, List.set_cons_zero, List.set_cons_succ]))
  (refine u_take 1 (v := ?_) rfl rfl (by kernel_rfl) (by kernel_rfl) (fun _ _ _ h => h) (Or.inl ⟨by rfl, ?_⟩) ?_; rotate_left; (focus (intro wz hSw; (try dsimp only at hSw); go_simp; (try with_reducible rfl))); (try simp only [Act.put, List.getElem_toArray, List.getElem_cons_succ, List.getElem_cons_zero, List.setIfInBounds_toArray, List.set_cons_zero, List.set_cons_succ]))
  (refine u_take 2 (v := ?_) rfl rfl (by kernel_rfl) (by kernel_rfl) (fun _ _ _ h => h) (Or.inl ⟨by rfl, ?_⟩) ?_; rotate_left; (focus (intro wz hSw; (try dsimp only at hSw); go_simp; (try with_reducible rfl))); (try simp only [Act.put, List.getElem_toArray, List.getElem_cons_succ, List.getElem_cons_zero, List.setIfInBounds_toArray, List.set_cons_zero, List.set_cons_succ]))
  (refine u_take 3 (v := ?_) rfl rfl (by kernel_rfl) (by kernel_rfl) (fun _ _ _ h => h) (Or.inl ⟨by rfl, ?_⟩) ?_; rotate_left; (focus (intro wz hSw; (try dsimp only at hSw); go_simp; (try with_reducible rfl))); (try simp only [Act.put, List.getElem_toArray, List.getElem_cons_succ, List.getElem_cons_zero, List.setIfInBounds_toArray, List.set_cons_zero, List.set_cons_succ]))
  (refine u_take 4 (v := ?_) rfl rfl (by kernel_rfl) (by kernel_rfl) (fun _ _ _ h => h) (Or.inl ⟨by rfl, ?_⟩) ?_; rotate_left; (focus (intro wz hSw; (try dsimp only at hSw); go_simp; (try with_reducible rfl))); (try simp only [Act.put, List.getElem_toArray, List.getElem_cons_succ, List.getElem_cons_zero, List.setIfInBounds_toArray, List.set_cons_zero, List.set_cons_succ]))
  (refine u_take 5 (v := ?_) rfl rfl (by kernel_rfl) (by kernel_rfl) (fun _ _ _ h => h) (Or.inl ⟨by rfl, ?_⟩) ?_; rotate_left; (focus (intro wz hSw; (try dsimp only at hSw); go_simp; (try with_reducible rfl))); (try simp only [Act.put, List.getElem_toArray, List.getElem_cons_succ, List.getElem_cons_zero, List.setIfInBounds_toArray, List.set_cons_zero, List.set_cons_succ]))
  (refine u_take 6 (v := ?_) rfl rfl (by kernel_rfl) (by kernel_rfl) (fun _ _ _ h => h) (Or.inl ⟨by rfl, ?_⟩) ?_; rotate_left; (focus (intro wz hSw; (try dsimp only at hSw); go_simp; (try with_reducible rfl))); (try simp only [Act.put, List.getElem_toArray, List.getElem_cons_succ, List.getElem_cons_zero, List.setIfInBounds_toArray, List.set_cons_zero, List.set_cons_succ]))
  (refine u_take 7 (v := ?_) rfl rfl (by kernel_rfl) (by kernel_rfl) (fun _ _ _ h => h) (Or.inl ⟨by rfl, ?_⟩) ?_; rotate_left; (focus (intro wz hSw; (try dsimp only at hSw); go_simp; (try with_reducible rfl))); (try simp only [Act.put, List.getElem_toArray, List.getElem_cons_succ, List.getElem_cons_zero, List.setIfInBounds_toArray, List.set_cons_zero, List.set_cons_succ]))
  refine u_last (by kernel_rfl) rfl (by kernel_rfl) ?_
  have C2' : MBlk w2.drew bm _ cm := C2
  have n3 : bi ≠ bm := fun e => C2.ne BI2 e.symm
  have n4 : w.heap.size ≠ bm := fun e => C2.ne B12 e.symm
  have fin : ∀ w' bo' cm', Fr [bs, bm] w w' → Blk w' bi 199 #[.map (some bs), .map (some bm)] → MBlk w' bs (List.map ent (l1 ++ l2)).toArray cl → MBlk w' bm (cntE (n - 1) bo') cm' → IxI w' bi bs bm (updm m id none) (n - 1) := by
    intro w' bo' cm' _ hi hs hc
    refine ⟨hi, ⟨_, _, hs, HL.out, d3, ?_⟩, ⟨_, _, hc⟩, h.ne, by omega⟩
    intro j t
    unfold updm
    by_cases e : j = id
    · subst e
      rw [if_pos rfl]
      constructor
      · intro e2; cases e2
      · rintro ⟨b, hb⟩
        rcases List.mem_append.1 hb with hb | hb
        · exact absurd rfl (d1 _ hb)
        · exact absurd rfl (d2 _ hb)
    · rw [if_neg e, hm j t]
      constructor
      · rintro ⟨b, hb⟩
        rcases List.mem_append.1 hb with hb | hb
        · exact ⟨b, by simp [hb]⟩
        · rcases List.mem_cons.1 hb with hb | hb
          · simp at hb; exact absurd hb.1 e
          · exact ⟨b, by simp [hb]⟩
      · rintro ⟨b, hb⟩
        rcases List.mem_append.1 hb with hb | hb
        · exact ⟨b, by simp [hb]⟩
        · exact ⟨b, by simp [hb]⟩
  rcases (show n = 1 ∨ (n - 1 ≠ 0) by omega) with e1 | e1
  · have e0 : ((n - 1 : Nat) : Int) = 0 := by omega
    rw [e0]
    refine wpList_update rfl _ (.tmp 23) (.tmp 25) (.tmp 27) rfl (.map (some bm)) (.int .i64 0) (.int .i64 0) rfl rfl rfl (updC0 w2.drew bm n bo cm C2 (by omega)) ?_
    have M3 := C2'.set #[⟨.int .i64 0, .int .i64 0, bo⟩] cm
    have F3 : Fr [bm] w2 _ := ((Fr.refl [] w2).drew.mono (by simp)).trans (C2'.fr (.map #[⟨.int .i64 0, .int .i64 0, bo⟩] cm))
    generalize setBlock w2.drew bm _ = w3 at M3 F3 ⊢
    have BI3 := Blk.via F3 (by simpa using n3) BI2
    have B13 := Blk.via F3 (by simpa using n4) B12
    have M3' := M2.via F3 (by simpa using h.ne)
    have hF03 : Fr [bs, bm] w w3 := (hF02.mono (by simp)).trans (F3.mono (by simp))
    clear C2 C2' BI2 B12 F3 hF02 M2
    refine wpList_nil ?_
    go_wp2_with fail
    refine wp_region_soft (by kernel_rfl) (by kernel_rfl) ?_; (repeat (refine wpQuiet_step (fun K hK => ?_); (first | ((fail); go_simp; refine hK _ ?_; clear hK K) | (apply soft_do; (rfl); (focus (intro W hC; (have q1 := (Blk.via hC (by simp) BI3).cell; have q2 := (Blk.via hC (by simp) B13).cell; have q3 := lookC0 _ bm bo cm (M3.via hC (by simp))); go_simp; (first | (fail) | done | rfl | exact ⟨rfl, rfl⟩))); (go_simp; refine hK _ ?_; clear hK K)) | (apply soft_skip; (rfl); (go_simp; refine hK _ ?_; clear hK K))))); refine wpQuiet_nil ?_
    intro w4 F4
    have BI4 := Blk.via F4 (by simp) BI3
    have B14 := Blk.via F4 (by simp) B13
    have M4 := M3.via F4 (by simp)
    have M4' := M3'.via F4 (by simp)
    have hF04 : Fr [bs, bm] w w4 := hF03.trans (F4.mono (by simp))
    clear BI3 B13 M3 M3' F4 hF03
    go_wp2_with fail
    refine u_region (S := fun w' => w'.cell? ⟨bi, 1, none⟩ = some (.map (some bm)) ∧ w'.cell? ⟨w.heap.size, 0, none⟩ = some (.int .i64 0)) 6 (by kernel_rfl) (by kernel_rfl) (by kernel_rfl) (by kernel_rfl) (by kernel_rfl) ⟨(BI4.drew.cell 1).trans rfl, (B14.drew.cell 0).trans rfl⟩ ?_
    (refine u_take 0 (v := ?_) rfl rfl (by kernel_rfl) (by kernel_rfl) (fun _ _ _ h => h) (Or.inl ⟨by rfl, ?_⟩) ?_; rotate_left; (focus (intro wz hSw; (try dsimp only at hSw); go_simp; (try with_reducible rfl))); (try simp only [Act.put, List.getElem_toArray, List.getElem_cons_succ, List.getElem_cons_zero, List.setIfInBounds_toArray, List.set_cons_zero, List.set_cons_succ]))
    (refine u_take 1 (v := ?_) rfl rfl (by kernel_rfl) (by kernel_rfl) (fun _ _ _ h => h) (Or.inl ⟨by rfl, ?_⟩) ?_; rotate_left; (focus (intro wz hSw; (try dsimp only at hSw); go_simp; (try with_reducible rfl))); (try simp only [Act.put, List.getElem_toArray, List.getElem_cons_succ, List.getElem_cons_zero, List.setIfInBounds_toArray, List.set_cons_zero, List.set_cons_succ]))
    (refine u_take 2 (v := ?_) rfl rfl (by kernel_rfl) (by kernel_rfl) (fun _ _ _ h => h) (Or.inl ⟨by rfl, ?_⟩) ?_; rotate_left; (focus (intro wz hSw; (try dsimp only at hSw); go_simp; (try with_reducible rfl))); (try simp only [Act.put, List.getElem_toArray, List.getElem_cons_succ, List.getElem_cons_zero, List.setIfInBounds_toArray, List.set_cons_zero, List.set_cons_succ]))
    (refine u_take 3 (v := ?_) rfl rfl (by kernel_rfl) (by kernel_rfl) (fun _ _ _ h => h) (Or.inl ⟨by rfl, ?_⟩) ?_; rotate_left; (focus (intro wz hSw; (try dsimp only at hSw); go_simp; (try with_reducible rfl))); (try simp only [Act.put, List.getElem_toArray, List.getElem_cons_succ, List.getElem_cons_zero, List.setIfInBounds_toArray, List.set_cons_zero, List.set_cons_succ]))
    (refine u_take 4 (v := ?_) rfl rfl (by kernel_rfl) (by kernel_rfl) (fun _ _ _ h => h) (Or.inl ⟨by rfl, ?_⟩) ?_; rotate_left; (focus (intro wz hSw; (try dsimp only at hSw); go_simp; (try with_reducible rfl))); (try simp only [Act.put, List.getElem_toArray, List.getElem_cons_succ, List.getElem_cons_zero, List.setIfInBounds_toArray, List.set_cons_zero, List.set_cons_succ]))
    (refine u_take 5 (v := ?_) rfl rfl (by kernel_rfl) (by kernel_rfl) (fun _ _ _ h => h) (Or.inl ⟨by rfl, ?_⟩) ?_; rotate_left; (focus (intro wz hSw; (try dsimp only at hSw); go_simp; (try with_reducible rfl))); (try simp only [Act.put, List.getElem_toArray, List.getElem_cons_succ, List.getElem_cons_zero, List.setIfInBounds_toArray, List.set_cons_zero, List.set_cons_succ]))
    refine u_last (by kernel_rfl) rfl (by kernel_rfl) ?_
    refine wpList_delete rfl (.tmp 39) (.tmp 41) _ _ rfl (.map (some bm)) (.int .i64 0) rfl rfl (delC0 w4.drew bm bo cm M4 _) ?_
    have M4d : MBlk w4.drew bm _ cm := M4
    have M5 := M4d.set (cntE 0 0) cm
    have F5 : Fr [bm] w4 _ := ((Fr.refl [] w4).drew.mono (by simp)).trans (M4d.fr (.map (cntE 0 0) cm))
    generalize setBlock w4.drew bm _ = w5 at M5 F5 ⊢
    have BI5 := Blk.via F5 (by simpa using n3) BI4
    have M5' := M4'.via F5 (by simpa using h.ne)
    have hF05 : Fr [bs, bm] w w5 := hF04.trans (F5.mono (by simp))
    clear BI4 B14 M4 M4' M4d F5 hF04
    refine wpList_nil ?_
    go_wp2_with fail
    go_ret
    refine ⟨rfl, hF05, fin w5 0 cm hF05 BI5 M5' ?_, by omega⟩
    rw [show n - 1 = 0 by omega]; exact M5
  · obtain ⟨bo', cm', hup⟩ := updC w2.drew bm n bo cm C2 (n - 1) e1
    refine wpList_update rfl _ (.tmp 23) (.tmp 25) (.tmp 27) rfl (.map (some bm)) (.int .i64 0) (.int .i64 (n - 1 : Nat)) rfl rfl rfl hup ?_
    have M3 := C2'.set (cntE (n - 1) bo') cm'
    have F3 : Fr [bm] w2 _ := ((Fr.refl [] w2).drew.mono (by simp)).trans (C2'.fr (.map (cntE (n - 1) bo') cm'))
    generalize setBlock w2.drew bm _ = w3 at M3 F3 ⊢
    have BI3 := Blk.via F3 (by simpa using n3) BI2
    have B13 := Blk.via F3 (by simpa using n4) B12
    have M3' := M2.via F3 (by simpa using h.ne)
    have hF03 : Fr [bs, bm] w w3 := (hF02.mono (by simp)).trans (F3.mono (by simp))
    clear hup C2 C2' BI2 B12 F3 hF02 M2
    refine wpList_nil ?_
    go_wp2_with fail
    have e2 : (((n - 1 : Nat) : Int) == 0) = false := by simp; omega
    refine wp_region_soft (by kernel_rfl) (by kernel_rfl) ?_; (repeat (refine wpQuiet_step (fun K hK => ?_); (first | ((fail); go_simp; refine hK _ ?_; clear hK K) | (apply soft_do; (rfl); (focus (intro W hC; (have q1 := (Blk.via hC (by simp) BI3).cell; have q2 := (Blk.via hC (by simp) B13).cell; have q3 := lookC _ bm (n - 1) bo' cm' (M3.via hC (by simp))); go_simp; (first | (fail) | done | rfl | exact ⟨rfl, rfl⟩))); (go_simp; refine hK _ ?_; clear hK K)) | (apply soft_skip; (rfl); (go_simp; refine hK _ ?_; clear hK K))))); refine wpQuiet_nil ?_
    intro w4 F4
    have BI4 := Blk.via F4 (by simp) BI3
    have M4 := M3.via F4 (by simp)
    have M4' := M3'.via F4 (by simp)
    have hF04 : Fr [bs, bm] w w4 := hF03.trans (F4.mono (by simp))
    clear BI3 B13 M3 M3' F4 hF03
    go_wp2_with fail
    go_ret
    exact ⟨rfl, hF04, fin w4 bo' cm' hF04 BI4 M4' M4, by omega⟩
end Go.Proofs.Ytkimldeagndgjaa

/- The arena of slots: words. -/
namespace Go.Proofs.Ytkimldeagndgjaa
set_option linter.unusedVariables false
set_option linter.unusedSimpArgs false
open Go.RowKit

/-- The arena's cells: 500 slots of 8 cells, its size, the first free slot, how many are taken. -/
def arenaA (f : Nat → Nat → Value) (s fr u : Int) : Array Value := grid 500 8 f ++ #[.int .i64 s, .int .i64 fr, .int .i64 u]
theorem arenaA_size (f : Nat → Nat → Value) (s fr u : Int) : (arenaA f s fr u).size = 4003 := by simp [arenaA, grid_size]
theorem arenaA_slot {f : Nat → Nat → Value} {s fr u : Int} {i j : Nat} (hi : i < 500) (hj : j < 8) : (arenaA f s fr u)[i * 8 + j]? = some (f i j) := by
  unfold arenaA
  rw [Array.getElem?_append_left (by rw [grid_size]; omega), grid_get hi hj]
theorem arenaA_tail {f : Nat → Nat → Value} {s fr u : Int} {j : Nat} : (arenaA f s fr u)[4000 + j]? = (#[Value.int .i64 s, .int .i64 fr, .int .i64 u] : Array Value)[j]? := by
  unfold arenaA
  rw [Array.getElem?_append_right (by rw [grid_size]; omega), grid_size, show 4000 + j - 500 * 8 = j by omega]
theorem arenaA_set {f : Nat → Nat → Value} {s fr u : Int} {i j : Nat} (hi : i < 500) (hj : j < 8) (v : Value) : (arenaA f s fr u).setIfInBounds (i * 8 + j) v = arenaA (fun i' j' => if i' = i ∧ j' = j then v else f i' j') s fr u := by
  unfold arenaA
  rw [← grid_set hj, Array.setIfInBounds_append_left (by rw [grid_size]; omega)]
theorem arenaA_setT {f : Nat → Nat → Value} {s fr u : Int} {j : Nat} (v : Value) : (arenaA f s fr u).setIfInBounds (4000 + j) v = grid 500 8 f ++ (#[Value.int .i64 s, .int .i64 fr, .int .i64 u] : Array Value).setIfInBounds j v := by
  unfold arenaA
  rw [Array.setIfInBounds_append_right (by rw [grid_size]; omega), grid_size, show 4000 + j - 500 * 8 = j by omega]
def isZ : Value → Bool
  | .int .i64 n => n == 0
  | _ => false
theorem isZ_eq {v : Value} (h : isZ v = true) : v = .int .i64 0 := by
  unfold isZ at h
  split at h
  · simp at h; rw [h]
  · cases h
set_option maxRecDepth 1000000 in
theorem zero_all : Try.zeroCells195.toList.all isZ = true := by kernel_rfl
theorem zero_arena : Try.zeroCells195 = arenaA (fun _ _ => .int .i64 0) 0 0 0 := by
  have h := zero_all
  have hs := Try.zeroCells195_size
  generalize Try.zeroCells195 = cs at h hs
  apply Array.ext_getElem?
  intro i
  rcases Nat.lt_or_ge i cs.size with hi | hi
  · have e1 : cs[i]? = some (.int .i64 0) := by
      rw [Array.getElem?_eq_getElem hi, isZ_eq (List.all_eq_true.1 h _ (Array.getElem_mem_toList hi))]
    rw [e1]
    rw [hs] at hi
    rcases Nat.lt_or_ge i 4000 with hl | hl
    · have := @arenaA_slot (fun _ _ => .int .i64 0) 0 0 0 (i / 8) (i % 8) (by omega) (by omega)
      rw [show i / 8 * 8 + i % 8 = i by omega] at this
      exact this.symm
    · obtain ⟨j, hj⟩ : ∃ j, i = 4000 + j := ⟨i - 4000, by omega⟩
      subst hj
      rw [arenaA_tail]
      rcases (show j = 0 ∨ j = 1 ∨ j = 2 by omega) with rfl | rfl | rfl <;> rfl
  · rw [Array.getElem?_eq_none hi, Array.getElem?_eq_none (by rw [arenaA_size, ← hs]; exact hi)]
end Go.Proofs.Ytkimldeagndgjaa

/- The arena of slots: words, and the methods that look, walked. -/
namespace Go.Proofs.Ytkimldeagndgjaa
set_option linter.unusedVariables false
set_option linter.unusedSimpArgs false
open Go.RowKit

/-- An order. -/
structure Ord where
  id : Int
  ow : Int
  sd : Int
  pr : Int
  qt : Int
  fl : Int
  sq : Int
deriving DecidableEq, Inhabited
abbrev Ord.l (o : Ord) : List Value := [.int .i64 o.id, .int .i64 o.ow, .int .i64 o.sd, .int .i64 o.pr, .int .i64 o.qt, .int .i64 o.fl, .int .i64 o.sq]
abbrev Ord.a (o : Ord) : Array Value := #[.int .i64 o.id, .int .i64 o.ow, .int .i64 o.sd, .int .i64 o.pr, .int .i64 o.qt, .int .i64 o.fl, .int .i64 o.sq]
def slotC (ord : Nat → Ord) (nx : Nat → Int) (i j : Nat) : Value := .int .i64 (match j with | 0 => (ord i).id | 1 => (ord i).ow | 2 => (ord i).sd | 3 => (ord i).pr | 4 => (ord i).qt | 5 => (ord i).fl | 6 => (ord i).sq | _ => nx i)
def updO {α : Type} (f : Nat → α) (k : Nat) (v : α) : Nat → α := fun j => if j = k then v else f j
theorem updO_same {α : Type} (f : Nat → α) (k : Nat) (v : α) : updO f k v k = v := by simp [updO]
theorem updO_ne {α : Type} {f : Nat → α} {k j : Nat} {v : α} (h : j ≠ k) : updO f k v j = f j := by simp [updO, h]

/-- The arena in memory. -/
abbrev BlkA (w : World) (ba : Nat) (ord : Nat → Ord) (nx : Nat → Int) (s fr u : Int) : Prop := Blk w ba 195 (arenaA (slotC ord nx) s fr u)

theorem arenaA_congr {f g : Nat → Nat → Value} {s fr u : Int} (h : ∀ i j, i < 500 → j < 8 → f i j = g i j) : arenaA f s fr u = arenaA g s fr u := by
  unfold arenaA; rw [grid_congr h]

section
variable {w : World} {ba : Nat} {ord : Nat → Ord} {nx : Nat → Int} {s fr u : Int}
theorem BlkA.next (h : BlkA w ba ord nx s fr u) {i : Nat} (hi : i < 500) : w.cell? ⟨ba, i * 8 + 7, none⟩ = some (.int .i64 (nx i)) := by
  rw [h.cell, arenaA_slot hi (by omega)]; rfl
theorem BlkA.size (h : BlkA w ba ord nx s fr u) : w.cell? ⟨ba, 4000, none⟩ = some (.int .i64 s) := by rw [h.cell]; exact arenaA_tail (j := 0)
theorem BlkA.free (h : BlkA w ba ord nx s fr u) : w.cell? ⟨ba, 4001, none⟩ = some (.int .i64 fr) := by rw [h.cell]; exact arenaA_tail (j := 1)
theorem BlkA.used (h : BlkA w ba ord nx s fr u) : w.cell? ⟨ba, 4002, none⟩ = some (.int .i64 u) := by rw [h.cell]; exact arenaA_tail (j := 2)
theorem BlkA.order (h : BlkA w ba ord nx s fr u) {i : Nat} (hi : i < 500) : w.rangeAt ba (i * 8) (ord i).l := by
  intro j v hj
  have hl : j < 7 := (List.getElem?_eq_some_iff.1 hj).1
  rw [h.cell, arenaA_slot hi (by omega), ← hj]
  rcases (show j = 0 ∨ j = 1 ∨ j = 2 ∨ j = 3 ∨ j = 4 ∨ j = 5 ∨ j = 6 by omega) with rfl | rfl | rfl | rfl | rfl | rfl | rfl <;> rfl
theorem BlkA.there (h : BlkA w ba ord nx s fr u) {i n : Nat} (hi : i < 500) (hn : n ≤ 8) : w.there ba (i * 8) n := by
  intro j hj
  exact ⟨by rw [h.cell, arenaA_slot hi (by omega)]; rfl, h.frozen _⟩
theorem BlkA.setNext (h : BlkA w ba ord nx s fr u) {i : Nat} (hi : i < 500) (v : Int) : BlkA (w.setCell ⟨ba, i * 8 + 7, none⟩ (.int .i64 v)) ba ord (updO nx i v) s fr u := by
  refine (h.same (i * 8 + 7) (.int .i64 v)).cast ?_
  rw [arenaA_set hi (by omega)]
  refine arenaA_congr fun a b _ hb => ?_
  by_cases e : a = i
  · subst e
    rcases (show b = 0 ∨ b = 1 ∨ b = 2 ∨ b = 3 ∨ b = 4 ∨ b = 5 ∨ b = 6 ∨ b = 7 by omega) with rfl | rfl | rfl | rfl | rfl | rfl | rfl | rfl <;> simp [slotC, updO]
  · simp [slotC, updO, e]
theorem BlkA.setFree (h : BlkA w ba ord nx s fr u) (v : Int) : BlkA (w.setCell ⟨ba, 4001, none⟩ (.int .i64 v)) ba ord nx s v u := by
  refine (h.same 4001 (.int .i64 v)).cast ?_
  exact (arenaA_setT (j := 1) _).trans rfl
theorem BlkA.setUsed (h : BlkA w ba ord nx s fr u) (v : Int) : BlkA (w.setCell ⟨ba, 4002, none⟩ (.int .i64 v)) ba ord nx s fr v := by
  refine (h.same 4002 (.int .i64 v)).cast ?_
  exact (arenaA_setT (j := 2) _).trans rfl
theorem BlkA.setOrder (h : BlkA w ba ord nx s fr u) {i : Nat} (hi : i < 500) (o : Ord) : BlkA (w.setCells ba (i * 8) o.l) ba (updO ord i o) nx s fr u := by
  have e0 := h.same (i * 8 + 0) (.int .i64 o.id)
  have e1 := e0.same (i * 8 + 1) (.int .i64 o.ow)
  have e2 := e1.same (i * 8 + 2) (.int .i64 o.sd)
  have e3 := e2.same (i * 8 + 3) (.int .i64 o.pr)
  have e4 := e3.same (i * 8 + 4) (.int .i64 o.qt)
  have e5 := e4.same (i * 8 + 5) (.int .i64 o.fl)
  have e6 := e5.same (i * 8 + 6) (.int .i64 o.sq)
  refine Blk.cast e6 ?_
  rw [arenaA_set hi (by omega), arenaA_set hi (by omega), arenaA_set hi (by omega), arenaA_set hi (by omega), arenaA_set hi (by omega), arenaA_set hi (by omega), arenaA_set hi (by omega)]
  refine arenaA_congr fun a b _ hb => ?_
  by_cases e : a = i
  · subst e
    rcases (show b = 0 ∨ b = 1 ∨ b = 2 ∨ b = 3 ∨ b = 4 ∨ b = 5 ∨ b = 6 ∨ b = 7 by omega) with rfl | rfl | rfl | rfl | rfl | rfl | rfl | rfl <;> simp [slotC, updO]
  · simp [slotC, updO, e]
theorem setCells_append (b : Nat) : ∀ (x y : List Value) (o : Nat) (w : World), w.setCells b o (x ++ y) = (w.setCells b o x).setCells b (o + x.length) y
  | [], _, _, _ => by simp [World.setCells]
  | v :: r, y, o, w => by
    simp only [List.cons_append, World.setCells, setCells_append b r y, List.length_cons]
    rw [show o + 1 + r.length = o + (r.length + 1) by omega]
theorem BlkA.setSlot (h : BlkA w ba ord nx s fr u) {i : Nat} (hi : i < 500) (o : Ord) (n : Int) : BlkA (w.setCells ba (i * 8) (o.l ++ [.int .i64 n])) ba (updO ord i o) (updO nx i n) s fr u := by
  rw [setCells_append]
  exact (h.setOrder hi o).setNext hi n
theorem fr_setCells {a : World} {S : List Nat} (b : Nat) (hb : b ∈ S ∨ a.heap.size ≤ b) : ∀ (x : List Value) (o : Nat) (w : World), Fr S a w → Fr S a (w.setCells b o x)
  | [], _, _, h => h
  | v :: r, o, w, h => fr_setCells b hb r (o + 1) _ (h.set hb v)
theorem Blk.cells {g : Nat} {t : TypeId} {cs : Array Value} {b : Nat} (hne : g ≠ b) : ∀ (x : List Value) (o : Nat) (w : World), Blk w g t cs → Blk (w.setCells b o x) g t cs
  | [], _, _, h => h
  | v :: r, o, w, h => Blk.cells hne r (o + 1) _ (h.off hne)
end

/-- What the free slots' chain says. -/
def hdI : List Nat → Int
  | [] => -1
  | i :: _ => i
def ChainA (nx : Nat → Int) : List Nat → Prop
  | [] => True
  | i :: r => nx i = hdI r ∧ ChainA nx r
theorem ChainA.upd {nx : Nat → Int} {k : Nat} {v : Int} : ∀ {l : List Nat}, k ∉ l → ChainA nx l → ChainA (updO nx k v) l
  | [], _, _ => trivial
  | i :: r, h, hc => ⟨by rw [updO_ne (fun e => h (by simp [e]))]; exact hc.1, ChainA.upd (fun e => h (by simp [e])) hc.2⟩

/-- The arena: fl the free slots in the chain's order, m the orders that are there. -/
structure ArI (w : World) (ba N : Nat) (fl : List Nat) (m : Nat → Option Ord) : Prop where
  b : ∃ ord nx, BlkA w ba ord nx N (hdI fl) ((N : Int) - fl.length) ∧ ChainA nx fl ∧ (∀ i o, m i = some o → ord i = o ∧ nx i = -2) ∧ (∀ i ∈ fl, nx i ≠ -2)
  nd : fl.Nodup
  mem : ∀ i, i ∈ fl ↔ i < N ∧ m i = none
  out : ∀ i, N ≤ i → m i = none
  N1 : 1 ≤ N
  N2 : N ≤ 500
  len : fl.length ≤ N
theorem ArI.fr {w W : World} {ba N : Nat} {fl : List Nat} {m : Nat → Option Ord} (h : ArI w ba N fl m) {S : List Nat} (hf : Fr S w W) (h1 : ba ∉ S) : ArI W ba N fl m := by
  obtain ⟨ord, nx, hb, hr⟩ := h.b
  exact ⟨⟨ord, nx, Blk.via hf h1 hb, hr⟩, h.nd, h.mem, h.out, h.N1, h.N2, h.len⟩

theorem arRoom_any (w : World) (ba N : Nat) (fl : List Nat) (m : Nat → Option Ord) (h : ArI w ba N fl m) :
    Calls Try.prog 109 #[.pointer (some ⟨ba, 0, none⟩)] w fun e w' => e = .returned (.int .i64 fl.length) ∧ Fr [] w w' := by
  obtain ⟨ord, nx, hb, _⟩ := h.b
  have h1 := h.N2
  have h2 := h.len
  have hv : IntKind.i64.wrap ((N : Int) - ((N : Int) - fl.length)) = fl.length := by rw [IntWalk.i64_in _ (by omega)]; omega
  go_enter Try.func109, Try.ntmps109
  go_wp2_with fail
  refine wp_region_soft (by kernel_rfl) (by kernel_rfl) ?_; (repeat (refine wpQuiet_step (fun K hK => ?_); (first | ((fail); go_simp; refine hK _ ?_; clear hK K) | (apply soft_do; (rfl); (focus (intro W hC; (have q1 := BlkA.size (Blk.via hC (by simp) hb); have q2 := BlkA.used (Blk.via hC (by simp) hb)); go_simp; (first | (fail) | done | rfl | exact ⟨rfl, rfl⟩))); (go_simp; refine hK _ ?_; clear hK K)) | (apply soft_skip; (rfl); (go_simp; refine hK _ ?_; clear hK K))))); refine wpQuiet_nil ?_
  intro w1 F1
  go_wp2_with fail
  go_ret
  exact ⟨rfl, F1⟩
theorem arUsed_any (w : World) (ba N : Nat) (fl : List Nat) (m : Nat → Option Ord) (h : ArI w ba N fl m) :
    Calls Try.prog 92 #[.pointer (some ⟨ba, 0, none⟩)] w fun e w' => e = .returned (.int .i64 ((N : Int) - fl.length)) ∧ Fr [] w w' := by
  obtain ⟨ord, nx, hb, _⟩ := h.b
  have q2 := BlkA.used hb
  go_enter Try.func92, Try.ntmps92
  go_wp2_with fail
  go_ret
  exact ⟨rfl, Fr.refl _ _⟩
set_option maxRecDepth 20000 in
theorem arAt_in (w : World) (ba N : Nat) (ord : Nat → Ord) (nx : Nat → Int) (fr u : Int) (hb : BlkA w ba ord nx N fr u) (hN : N ≤ 500) (n : Nat) (hn : n < N) (hx : nx n = -2) :
    Calls Try.prog 141 #[.pointer (some ⟨ba, 0, none⟩), .int .i64 n] w fun e w' => e = .returned (.pointer (some ⟨ba, n * 8, none⟩)) ∧ w = w' := by
  have q1 := hb.size
  have i1 : n < 500 := by omega
  have i2 : (n : Int) < 500 := by omega
  have q2 := hb.next i1
  rw [hx] at q2
  have HX := Lib.hid hx
  clear hb hx
  go_enter Try.func141, Try.ntmps141
  go_wp2_with fail
  go_ret
  exact ⟨rfl, rfl⟩
end Go.Proofs.Ytkimldeagndgjaa

/- The arena of slots: New, walked. -/
namespace Go.Proofs.Ytkimldeagndgjaa
set_option linter.unusedVariables false
set_option linter.unusedSimpArgs false
open Go.RowKit

theorem places_arena (w : World) : ((Try.prog.fieldsOf 195).mapM (m := Sem) fun f => do pure (f.offset, ← sizeOf f.type)).run Try.prog w = .ok #[(0, 4000), (4000, 1), (4001, 1), (4002, 1)] w := by kernel_rfl
theorem und_arena : Try.prog.underlying 195 = some (.struct (Try.prog.fieldsOf 195)) := by kernel_rfl
theorem build_gen (cs : Array Value) (hs : cs.size = 4003) (hz : ∀ w, (zeroValue 195).run Try.prog w = .ok (.agg cs) w) (w : World) (n : Int) :
    (Instr.build 195 #[(1, .int .i64 n)]).run Try.prog w = .ok (.agg (cs.setIfInBounds 4000 (.int .i64 n))) w := by
  unfold Instr.build
  rw [Sem.run_bind, hz w]
  simp only [Result.andThen_ok]
  rw [Sem.run_bind, run_underlying und_arena]
  simp only [Result.andThen_ok]
  rw [Sem.run_bind, places_arena w]
  simp only [Result.andThen_ok]
  simp [Instr.fill, hs, Value.cells]
theorem arenaA_setS (f : Nat → Nat → Value) (s fr u n : Int) : (arenaA f s fr u).setIfInBounds 4000 (.int .i64 n) = arenaA f n fr u := (arenaA_setT (j := 0) _).trans rfl
theorem set_eq {cs : Array Value} (h : cs = arenaA (fun _ _ => .int .i64 0) 0 0 0) (n : Int) : cs.setIfInBounds 4000 (.int .i64 n) = arenaA (fun _ _ => .int .i64 0) n 0 0 := by
  rw [h]; exact arenaA_setS _ _ _ _ _
theorem run_eq {P : Program} {s : Sem Value} {cs cs' : Array Value} {w : World} (h : s.run P w = .ok (.agg cs) w) (e : cs = cs') : s.run P w = .ok (.agg cs') w := by rw [h, e]
theorem build_arena (w : World) (n : Int) : (Instr.build 195 #[(1, .int .i64 n)]).run Try.prog w = .ok (.agg (arenaA (fun _ _ => .int .i64 0) n 0 0)) w :=
  run_eq (build_gen _ Try.zeroCells195_size Try.zeroValue195 w n) (set_eq zero_arena n)
def ord0 : Ord := ⟨0, 0, 0, 0, 0, 0, 0⟩
theorem wpList_exec {P : Program} {ops : Array Oper} {rest : List Oper} {o : Oper} {a : Act} {w w' : World} {Q : Exit → Act → World → Prop} (hgd : o.guard = none) (v : Value)
    (hrun : (execOp a.eval o).run P w = .ok (.value v) w') (h : wpList P ops Q rest (a.put o.dst v) w') : wpList P ops Q (o :: rest) a w := by
  refine wpList_plain hgd fun Kq hKq => ?_
  unfold Oper.wp
  rw [hrun]
  exact hKq _ _ h
theorem wpList_buildA {ops : Array Oper} {rest : List Oper} {o : Oper} {a : Act} {w : World} {Q : Exit → Act → World → Prop} (hgd : o.guard = none) (x : Operand) (ho : o.op = .build 195 #[(1, x)]) (n : Int) (hx : a.eval x = .int .i64 n)
    (h : wpList Try.prog ops Q rest (a.put o.dst (.agg (arenaA (fun _ _ => .int .i64 0) n 0 0))) w) : wpList Try.prog ops Q (o :: rest) a w := by
  refine wpList_exec hgd _ ?_ h
  unfold execOp
  simp only [ho]
  have := build_arena w n
  simp [hx, this, Result.andThen]

theorem arNew_bad (w : World) (n : Int) (hn : n < 1 ∨ 500 < n) : Calls Try.prog 79 #[.int .i64 n] w fun e w' => e = .returned (.tuple #[.pointer none, .int .i64 9]) ∧ Fr [] w w' := by
  rcases (show n < 1 ∨ (¬ n < 1 ∧ 500 < n) by omega) with h | ⟨h, h'⟩
  all_goals
    go_enter Try.func79, Try.ntmps79
    go_wp2_with fail
    go_ret2
    exact ⟨rfl, Fr.refl _ _⟩

theorem chain_range (nx : Nat → Int) : ∀ (k s : Nat), (∀ j, s ≤ j → j + 1 < s + k → nx j = j + 1) → (∀ j, j + 1 = s + k → s ≤ j → nx j = -1) → ChainA nx (List.range' s k)
  | 0, _, _, _ => trivial
  | 1, s, _, h2 => ⟨h2 s rfl (Nat.le_refl _), trivial⟩
  | k + 2, s, h1, h2 => by
    refine ⟨?_, chain_range nx (k + 1) (s + 1) (fun j a b => h1 j (by omega) (by omega)) (fun j a b => h2 j (by omega) (by omega))⟩
    rw [h1 s (Nat.le_refl _) (by omega)]
    simp [List.range'_succ, hdI]

set_option maxRecDepth 20000 in
set_option maxHeartbeats 1000000 in
theorem arNew_ok (w : World) (N : Nat) (h1 : 1 ≤ N) (h2 : N ≤ 500) : Calls Try.prog 79 #[.int .i64 N] w fun e w' => e = .returned (.tuple #[.pointer (some ⟨w.heap.size, 0, none⟩), .int .i64 0]) ∧ Fr [] w w' ∧ ArI w' w.heap.size N (List.range' 0 N) (fun _ => none) := by
  have a1 : ¬ ((N : Int) < 1) := by omega
  have a2 : ¬ (500 < (N : Int)) := by omega
  go_enter Try.func79, Try.ntmps79
  go_wp2_with (refine wpList_buildA rfl (.tmp 12) rfl N rfl ?_)
  go_loopw [5, 16] (fun s5 s16 wr => ∃ i : Nat, i ≤ N ∧ s16 = .int .i64 i ∧ Fr [] w wr ∧ w.heap.size < wr.heap.size ∧ BlkA wr w.heap.size (fun _ => ord0) (fun j => if j < i then (j : Int) + 1 else 0) N 0 0) (fun _ s16 _ => N - (intOf s16).toNat)
  case atStart =>
    refine ⟨0, by omega, rfl, by with_reducible repeat (first | exact Fr.refl _ _ | assumption | apply Fr.drew | apply Fr.drewN | apply Fr.alloc | (apply Fr.step; assumption; (intro _ h; (first | exact h | (focus (simp_all; done))))) | (apply Fr.setIn; (first | exact List.mem_cons_self | exact List.mem_cons_of_mem _ List.mem_cons_self | exact List.mem_cons_of_mem _ (List.mem_cons_of_mem _ List.mem_cons_self) | exact List.mem_cons_of_mem _ (List.mem_cons_of_mem _ (List.mem_cons_of_mem _ List.mem_cons_self)))) | (apply Fr.setNew; (first | omega | (simp; omega)))), by simp, ?_⟩
    refine (Blk.new _ _ _).cast (arenaA_congr fun a b _ hb => ?_)
    rcases (show b = 0 ∨ b = 1 ∨ b = 2 ∨ b = 3 ∨ b = 4 ∨ b = 5 ∨ b = 6 ∨ b = 7 by omega) with rfl | rfl | rfl | rfl | rfl | rfl | rfl | rfl <;> simp [slotC, ord0]
  case round =>
    obtain ⟨i, hi, rfl, F, hl, B⟩ := hrel
    have i0 : (0 : Int) ≤ (i : Int) := by omega
    by_cases hlt : i < N
    · have i1 : (i : Int) < (N : Int) := by omega
      have i2 : i < 500 := by omega
      have i3 : (i : Int) < 500 := by omega
      have hwr : IntKind.i64.wrap ((i : Int) + 1) = (i : Int) + 1 := IntWalk.i64_in _ (by omega)
      have c1 := B.next i2
      have f1 := B.frozen (i * 8 + 7)
      go_wp2_with fail
      go_roundw
      case rel =>
        refine ⟨i + 1, by omega, by simp, F.setNew (Nat.le_refl _), by simpa [World.setCell] using hl, (BlkA.setNext B i2 ((i : Int) + 1)).cast (arenaA_congr fun a b _ hb => ?_)⟩
        by_cases e : a = i
        · subst e
          rcases (show b = 0 ∨ b = 1 ∨ b = 2 ∨ b = 3 ∨ b = 4 ∨ b = 5 ∨ b = 6 ∨ b = 7 by omega) with rfl | rfl | rfl | rfl | rfl | rfl | rfl | rfl <;> simp [slotC, updO]
        · have e2 : (a < i + 1) ↔ (a < i) := by omega
          simp [slotC, updO, e, e2]
      case measure => simp [intOf]; omega
    · obtain rfl : i = N := by omega
      have n1 : ((i - 1 : Nat) : Int) < 500 := by omega
      have n2 : i - 1 < 500 := by omega
      have n3 : (0 : Int) ≤ ((i - 1 : Nat) : Int) := by omega
      have hwr : IntKind.i64.wrap ((i : Int) - 1) = ((i - 1 : Nat) : Int) := by rw [IntWalk.i64_in _ (by omega)]; omega
      have c1 := B.next n2
      have f1 := B.frozen ((i - 1) * 8 + 7)
      go_wp2_with fail
      go_ret2
      have e1 : hdI (List.range' 0 i) = 0 := by
        obtain ⟨k, hk⟩ : ∃ k, i = k + 1 := ⟨i - 1, by omega⟩
        rw [hk]; simp [List.range'_succ, hdI]
      have e2 : (i : Int) - (List.range' 0 i).length = 0 := by simp
      refine ⟨rfl, F.setNew (Nat.le_refl _), ⟨fun _ => ord0, updO (fun j => if j < i then (j : Int) + 1 else 0) (i - 1) (-1), ?_, ?_, ?_, ?_⟩, ?_, ?_, ?_, h1, h2, ?_⟩
      · rw [e1, e2]; exact BlkA.setNext B n2 (-1)
      · refine chain_range _ _ _ ?_ ?_
        · intro j _ hj
          rw [updO_ne (by omega), if_pos (by omega)]
        · intro j hj _
          rw [show j = i - 1 by omega, updO_same]
      · intro j o h; cases h
      · intro j hj
        have hj' : j < i := by simpa [List.mem_range'] using hj
        by_cases e : j = i - 1
        · rw [e, updO_same]; decide
        · rw [updO_ne e, if_pos hj']; omega
      · exact List.nodup_range'
      · intro j; simp [List.mem_range']
      · intro _ _; rfl
      · simp
end Go.Proofs.Ytkimldeagndgjaa

/- The arena of slots: Take, Get, Set, Drop, walked. -/
namespace Go.Proofs.Ytkimldeagndgjaa
set_option linter.unusedVariables false
set_option linter.unusedSimpArgs false
open Go.RowKit

theorem info_slot : (Try.prog.info? 192).map (·.size) = some 8 := by kernel_rfl
theorem info_ord : (Try.prog.info? 43).map (·.size) = some 7 := by kernel_rfl

theorem wpList_storeSlot {ops : Array Oper} {rest : List Oper} {p : Oper} {a : Act} {w : World} {Q : Exit → Act → World → Prop} (hgd : p.guard = none) (x y : Operand) (hp : p.op = .store 192 x y) {ba n : Nat} {ord : Nat → Ord} {nx : Nat → Int} {s fr u : Int} (o : Ord) (v : Int)
    (hx : a.eval x = .pointer (some ⟨ba, n * 8, none⟩)) (hy : a.eval y = .agg #[.int .i64 o.id, .int .i64 o.ow, .int .i64 o.sd, .int .i64 o.pr, .int .i64 o.qt, .int .i64 o.fl, .int .i64 o.sq, .int .i64 v]) (hb : BlkA w ba ord nx s fr u) (hn : n < 500)
    (h : ∀ w', BlkA w' ba (updO ord n o) (updO nx n v) s fr u → Fr [ba] w w' → wpList Try.prog ops Q rest (a.put p.dst undef) w') : wpList Try.prog ops Q (p :: rest) a w :=
  wpList_store_mid hgd _ x y hp ba (n * 8) _ hx hy (hb.there hn (by simp)) info_slot (by simp [Value.oneCell']) (h _ (hb.setSlot hn o v) (fr_setCells ba (.inl (by simp)) _ _ _ (Fr.refl _ _)))
theorem wpList_storeOrd {ops : Array Oper} {rest : List Oper} {p : Oper} {a : Act} {w : World} {Q : Exit → Act → World → Prop} (hgd : p.guard = none) (x y : Operand) (hp : p.op = .store 43 x y) {ba n : Nat} {ord : Nat → Ord} {nx : Nat → Int} {s fr u : Int} (o : Ord)
    (hx : a.eval x = .pointer (some ⟨ba, n * 8, none⟩)) (hy : a.eval y = .agg o.a) (hb : BlkA w ba ord nx s fr u) (hn : n < 500)
    (h : ∀ w', BlkA w' ba (updO ord n o) nx s fr u → Fr [ba] w w' → wpList Try.prog ops Q rest (a.put p.dst undef) w') : wpList Try.prog ops Q (p :: rest) a w :=
  wpList_store_mid hgd _ x y hp ba (n * 8) _ hx hy (hb.there hn (by simp)) info_ord (by simp [Value.oneCell']) (h _ (hb.setOrder hn o) (fr_setCells ba (.inl (by simp)) _ _ _ (Fr.refl _ _)))
theorem wpList_loadOrd {ops : Array Oper} {rest : List Oper} {p : Oper} {a : Act} {w : World} {Q : Exit → Act → World → Prop} (hgd : p.guard = none) (x : Operand) (hp : p.op = .load 43 x) {ba n : Nat} {ord : Nat → Ord} {nx : Nat → Int} {s fr u : Int} (o : Ord)
    (hx : a.eval x = .pointer (some ⟨ba, n * 8, none⟩)) (hb : BlkA w ba ord nx s fr u) (hn : n < 500) (ho : ord n = o)
    (h : wpList Try.prog ops Q rest (a.put p.dst (.agg o.a)) w) : wpList Try.prog ops Q (p :: rest) a w :=
  wpList_load_mid hgd _ x hp ba (n * 8) hx o.l _ (ho ▸ hb.order hn) Try.underlying43 rfl info_ord h
theorem arTake_full (w : World) (ba N : Nat) (m : Nat → Option Ord) (h : ArI w ba N [] m) (o : Ord) :
    Calls Try.prog 86 #[.pointer (some ⟨ba, 0, none⟩), .agg o.a] w fun e w' => e = .returned (.tuple #[.int .i64 0, .int .i64 7]) ∧ Fr [] w w' := by
  obtain ⟨ord, nx, hb, _⟩ := h.b
  have q1 : (w.alloc (.cells o.a 43)).cell? ⟨ba, 4001, none⟩ = some (.int .i64 (-1)) := BlkA.free (hb.alloc _)
  go_enter Try.func86, Try.ntmps86
  go_wp2_with fail
  go_ret2
  exact ⟨rfl, by with_reducible repeat (first | exact Fr.refl _ _ | assumption | apply Fr.drew | apply Fr.drewN | apply Fr.alloc | (apply Fr.step; assumption; (intro _ h; (first | exact h | (focus (simp_all; done))))) | (apply Fr.setIn; (first | exact List.mem_cons_self | exact List.mem_cons_of_mem _ List.mem_cons_self | exact List.mem_cons_of_mem _ (List.mem_cons_of_mem _ List.mem_cons_self) | exact List.mem_cons_of_mem _ (List.mem_cons_of_mem _ (List.mem_cons_of_mem _ List.mem_cons_self)))) | (apply Fr.setNew; (first | omega | (simp; omega))))⟩

set_option maxRecDepth 20000 in
set_option maxHeartbeats 1000000 in
theorem arTake_any (w : World) (ba N n : Nat) (fl : List Nat) (m : Nat → Option Ord) (h : ArI w ba N (n :: fl) m) (o : Ord) :
    Calls Try.prog 86 #[.pointer (some ⟨ba, 0, none⟩), .agg o.a] w fun e w' => e = .returned (.tuple #[.int .i64 n, .int .i64 0]) ∧ Fr [ba] w w' ∧ ArI w' ba N fl (updO m n (some o)) ∧ n < N ∧ m n = none := by
  obtain ⟨ord, nx, hb, hch, hm, hf⟩ := h.b
  obtain ⟨hn1, hn2⟩ := (h.mem n).1 (by simp)
  obtain ⟨hnd1, hnd2⟩ := List.nodup_cons.1 h.nd
  have hN2 := h.N2
  have hlen := h.len
  simp only [List.length_cons] at hlen
  have hx : nx n = hdI fl := hch.1
  have i0 : (0 : Int) ≤ (n : Int) := by omega
  have i1 : n < 500 := by omega
  have i2 : (n : Int) < 500 := by omega
  have hne : ((n : Int) == -1) = false := by simp <;> omega
  have hwr : IntKind.i64.wrap ((N : Int) - ((fl.length : Int) + 1) + 1) = (N : Int) - fl.length := by rw [IntWalk.i64_in _ (by omega)]; omega
  have HM := Lib.hid hm
  have HF := Lib.hid hf
  have HC := Lib.hid hch.2
  clear hm hf hch
  have B1 : Blk (w.alloc (.cells o.a 43)) w.heap.size 43 o.a := Blk.new _ _ _
  have F0 : Fr [] w (w.alloc (.cells o.a 43)) := (Fr.refl _ _).alloc _
  have hb0 : BlkA (w.alloc (.cells o.a 43)) ba ord nx N n ((N : Int) - (fl.length + 1)) := (hb.alloc _).cast (by simp [hdI])
  have nb : ba ≠ w.heap.size := hb0.ne B1 (by decide)
  have q1 := hb0.free
  have q2 := hb0.next i1
  rw [hx] at q2
  have f1 := hb0.frozen 4001
  have l1 := hb.lt
  go_enter Try.func86, Try.ntmps86
  go_wp2_with fail
  refine wp_name (fun W1 hW => ?_)
  have B11 := Blk.box0 hW
  have hb1 : BlkA W1 ba ord nx N (hdI fl) ((N : Int) - (fl.length + 1)) := Blk.eqv hW (((hb.setFree (hdI fl)).alloc _).cast (by simp))
  have F1 : Fr [ba] w W1 := Fr.eqv hW (by with_reducible repeat (first | exact Fr.refl _ _ | assumption | apply Fr.drew | apply Fr.drewN | apply Fr.alloc | (apply Fr.step; assumption; (intro _ h; (first | exact h | (focus (simp_all; done))))) | (apply Fr.setIn; (first | exact List.mem_cons_self | exact List.mem_cons_of_mem _ List.mem_cons_self | exact List.mem_cons_of_mem _ (List.mem_cons_of_mem _ List.mem_cons_self) | exact List.mem_cons_of_mem _ (List.mem_cons_of_mem _ (List.mem_cons_of_mem _ List.mem_cons_self)))) | (apply Fr.setNew; (first | omega | (simp; omega)))))
  simp only [World.size_setCell] at B11
  clear hW
  clear q1 q2 f1 l1 hb0 hb B1 F0 hx
  refine u_region (S := fun w' => ∀ i, w'.cell? ⟨w.heap.size, i, none⟩ = (o.a)[i]?) 7 (by kernel_rfl) (by kernel_rfl) (by kernel_rfl) (by kernel_rfl) (by kernel_rfl) (fun i => B11.drew.cell i) ?_
  (refine u_take 0 (v := ?_) rfl rfl (by kernel_rfl) (by kernel_rfl) (fun _ _ _ h => h) (Or.inl ⟨by rfl, ?_⟩) ?_; rotate_left; (focus (intro wz hSw; (try dsimp only at hSw); go_simp; (try with_reducible rfl))); (try simp only [Act.put, List.getElem_toArray, List.getElem_cons_succ, List.getElem_cons_zero, List.setIfInBounds_toArray, List.set_cons_zero, List.set_cons_succ]))
  (refine u_take 1 (v := ?_) rfl rfl (by kernel_rfl) (by kernel_rfl) (fun _ _ _ h => h) (Or.inl ⟨by rfl, ?_⟩) ?_; rotate_left; (focus (intro wz hSw; (try dsimp only at hSw); go_simp; (try with_reducible rfl))); (try simp only [Act.put, List.getElem_toArray, List.getElem_cons_succ, List.getElem_cons_zero, List.setIfInBounds_toArray, List.set_cons_zero, List.set_cons_succ]))
  (refine u_take 2 (v := ?_) rfl rfl (by kernel_rfl) (by kernel_rfl) (fun _ _ _ h => h) (Or.inl ⟨by rfl, ?_⟩) ?_; rotate_left; (focus (intro wz hSw; (try dsimp only at hSw); go_simp; (try with_reducible rfl))); (try simp only [Act.put, List.getElem_toArray, List.getElem_cons_succ, List.getElem_cons_zero, List.setIfInBounds_toArray, List.set_cons_zero, List.set_cons_succ]))
  (refine u_take 3 (v := ?_) rfl rfl (by kernel_rfl) (by kernel_rfl) (fun _ _ _ h => h) (Or.inl ⟨by rfl, ?_⟩) ?_; rotate_left; (focus (intro wz hSw; (try dsimp only at hSw); go_simp; (try with_reducible rfl))); (try simp only [Act.put, List.getElem_toArray, List.getElem_cons_succ, List.getElem_cons_zero, List.setIfInBounds_toArray, List.set_cons_zero, List.set_cons_succ]))
  (refine u_take 4 (v := ?_) rfl rfl (by kernel_rfl) (by kernel_rfl) (fun _ _ _ h => h) (Or.inl ⟨by rfl, ?_⟩) ?_; rotate_left; (focus (intro wz hSw; (try dsimp only at hSw); go_simp; (try with_reducible rfl))); (try simp only [Act.put, List.getElem_toArray, List.getElem_cons_succ, List.getElem_cons_zero, List.setIfInBounds_toArray, List.set_cons_zero, List.set_cons_succ]))
  (refine u_take 5 (v := ?_) rfl rfl (by kernel_rfl) (by kernel_rfl) (fun _ _ _ h => h) (Or.inl ⟨by rfl, ?_⟩) ?_; rotate_left; (focus (intro wz hSw; (try dsimp only at hSw); go_simp; (try with_reducible rfl))); (try simp only [Act.put, List.getElem_toArray, List.getElem_cons_succ, List.getElem_cons_zero, List.setIfInBounds_toArray, List.set_cons_zero, List.set_cons_succ]))
  (refine u_take 6 (v := ?_) rfl rfl (by kernel_rfl) (by kernel_rfl) (fun _ _ _ h => h) (Or.inl ⟨by rfl, ?_⟩) ?_; rotate_left; (focus (intro wz hSw; (try dsimp only at hSw); go_simp; (try with_reducible rfl))); (try simp only [Act.put, List.getElem_toArray, List.getElem_cons_succ, List.getElem_cons_zero, List.setIfInBounds_toArray, List.set_cons_zero, List.set_cons_succ]))
  refine u_last (by kernel_rfl) rfl (by kernel_rfl) ?_
  refine wpList_storeSlot rfl (.tmp 36) (.tmp 33) rfl o (-2) rfl rfl hb1.drew i1 ?_
  intro W2 hb2 F2
  have F2 : Fr [ba] w W2 := F1.drew.trans F2
  clear hb1 B11 F1
  have q1 := hb2.used
  have f1 := hb2.frozen 4002
  have l1 := hb2.lt
  refine wpList_nil ?_
  go_wp2_with fail
  go_ret2
  refine ⟨rfl, F2.setIn (by simp), ⟨⟨_, _, (hb2.setUsed ((N : Int) - fl.length)), ?_, ?_, ?_⟩, hnd2, ?_, ?_, h.N1, h.N2, by omega⟩, hn1, hn2⟩
  · exact ChainA.upd hnd1 HC.out
  · intro j p hj
    by_cases e : j = n
    · subst e
      rw [updO_same] at hj; injection hj with hj
      exact ⟨by rw [updO_same, hj], updO_same _ _ _⟩
    · rw [updO_ne e] at hj
      rw [updO_ne e, updO_ne e]; exact HM.out j p hj
  · intro j hj
    have e : j ≠ n := fun e => hnd1 (e ▸ hj)
    rw [updO_ne e]; exact HF.out j (by simp [hj])
  · intro j
    have := h.mem j
    by_cases e : j = n
    · subst e
      simp [updO_same, hnd1]
    · rw [updO_ne e, ← this]; simp [e]
  · intro j hj
    rw [updO_ne (by omega)]; exact h.out j hj
end Go.Proofs.Ytkimldeagndgjaa

/- The arena of slots: Get, Set, Drop, walked. -/
namespace Go.Proofs.Ytkimldeagndgjaa
set_option linter.unusedVariables false
set_option linter.unusedSimpArgs false
open Go.RowKit

set_option maxRecDepth 20000 in
theorem arGet_has (w : World) (ba N n : Nat) (fl : List Nat) (m : Nat → Option Ord) (h : ArI w ba N fl m) (o : Ord) (hn : m n = some o) :
    Calls Try.prog 95 #[.pointer (some ⟨ba, 0, none⟩), .int .i64 n] w fun e w' => e = .returned (.tuple #[.agg o.a, .bool true]) ∧ Fr [] w w' := by
  obtain ⟨ord, nx, hb, hch, hm, hf⟩ := h.b
  have hN := h.N2
  have hnN : n < N := by
    rcases Nat.lt_or_ge n N with e | e
    · exact e
    · rw [h.out n e] at hn; cases hn
  have i1 : n < 500 := by omega
  obtain ⟨ho, hx⟩ := hm n o hn
  have HX := Lib.hid hx
  have HO := Lib.hid ho
  have HB := Lib.hid hb
  clear hx ho hm hf hch hn hb
  go_enter Try.func95, Try.ntmps95
  go_wp2_with fail
  refine (arAt_in _ ba N ord nx _ _ (HB.out.alloc _) hN n hnN HX.out).mono ?_
  rintro e w1 ⟨rfl, rfl⟩
  go_wp2_with (refine wpList_loadOrd rfl (.tmp 14) rfl o rfl (HB.out.alloc _) i1 HO.out ?_)
  exact bodyPost_ret (v := .tuple #[.agg o.a, .bool true]) (by simp [results, Try.results95, go_sem]) rfl ⟨rfl, by with_reducible repeat (first | exact Fr.refl _ _ | assumption | apply Fr.drew | apply Fr.drewN | apply Fr.alloc | (apply Fr.step; assumption; (intro _ h; (first | exact h | (focus (simp_all; done))))) | (apply Fr.setIn; (first | exact List.mem_cons_self | exact List.mem_cons_of_mem _ List.mem_cons_self | exact List.mem_cons_of_mem _ (List.mem_cons_of_mem _ List.mem_cons_self) | exact List.mem_cons_of_mem _ (List.mem_cons_of_mem _ (List.mem_cons_of_mem _ List.mem_cons_self)))) | (apply Fr.setNew; (first | omega | (simp; omega))))⟩

set_option maxRecDepth 20000 in
theorem arSet_has (w : World) (ba N n : Nat) (fl : List Nat) (m : Nat → Option Ord) (h : ArI w ba N fl m) (o o' : Ord) (hn : m n = some o') :
    Calls Try.prog 106 #[.pointer (some ⟨ba, 0, none⟩), .int .i64 n, .agg o.a] w fun e w' => e = .returned (.bool true) ∧ Fr [ba] w w' ∧ ArI w' ba N fl (updO m n (some o)) := by
  obtain ⟨ord, nx, hb, hch, hm, hf⟩ := h.b
  have hN := h.N2
  have hnN : n < N := by
    rcases Nat.lt_or_ge n N with e | e
    · exact e
    · rw [h.out n e] at hn; cases hn
  have i1 : n < 500 := by omega
  obtain ⟨ho, hx⟩ := hm n o' hn
  have HX := Lib.hid hx
  have HB := Lib.hid hb
  have HM := Lib.hid hm
  have HN := Lib.hid hn
  clear hx ho hm hb hn
  go_enter Try.func106, Try.ntmps106
  go_wp2_with fail
  refine (arAt_in _ ba N ord nx _ _ (HB.out.alloc _) hN n hnN HX.out).mono ?_
  rintro e w1 ⟨rfl, rfl⟩
  go_wp2_with (refine wpList_storeOrd rfl (.tmp 16) (.tmp 14) rfl o rfl rfl (HB.out.alloc _) i1 ?_
               intro w2 hb2 F2)
  go_ret
  refine ⟨rfl, Fr.trans (by with_reducible repeat (first | exact Fr.refl _ _ | assumption | apply Fr.drew | apply Fr.drewN | apply Fr.alloc | (apply Fr.step; assumption; (intro _ h; (first | exact h | (focus (simp_all; done))))) | (apply Fr.setIn; (first | exact List.mem_cons_self | exact List.mem_cons_of_mem _ List.mem_cons_self | exact List.mem_cons_of_mem _ (List.mem_cons_of_mem _ List.mem_cons_self) | exact List.mem_cons_of_mem _ (List.mem_cons_of_mem _ (List.mem_cons_of_mem _ List.mem_cons_self)))) | (apply Fr.setNew; (first | omega | (simp; omega))))) F2, ⟨⟨_, _, hb2, hch, ?_, hf⟩, h.nd, ?_, ?_, h.N1, h.N2, h.len⟩⟩
  · intro j p hj
    by_cases e : j = n
    · subst e
      rw [updO_same] at hj; injection hj with hj
      exact ⟨by rw [updO_same, hj], HX.out⟩
    · rw [updO_ne e] at hj
      rw [updO_ne e]; exact HM.out j p hj
  · intro j
    have := h.mem j
    by_cases e : j = n
    · subst e
      rw [HN.out] at this
      simp [updO_same, this]
    · rw [updO_ne e, ← this]
  · intro j hj
    rw [updO_ne (by omega)]; exact h.out j hj

set_option maxRecDepth 20000 in
set_option maxHeartbeats 1000000 in
theorem arDrop_has (w : World) (ba N n : Nat) (fl : List Nat) (m : Nat → Option Ord) (h : ArI w ba N fl m) (o : Ord) (hn : m n = some o) :
    Calls Try.prog 138 #[.pointer (some ⟨ba, 0, none⟩), .int .i64 n] w fun e w' => e = .returned (.bool true) ∧ Fr [ba] w w' ∧ ArI w' ba N (n :: fl) (updO m n none) := by
  obtain ⟨ord, nx, hb, hch, hm, hf⟩ := h.b
  have hN := h.N2
  have hnN : n < N := by
    rcases Nat.lt_or_ge n N with e | e
    · exact e
    · rw [h.out n e] at hn; cases hn
  have hnfl : n ∉ fl := by
    intro hh
    rw [((h.mem n).1 hh).2] at hn; cases hn
  have hlen : fl.length < N := by
    have h1 : (n :: fl).Nodup := List.nodup_cons.2 ⟨hnfl, h.nd⟩
    have h2 : (n :: fl).length ≤ (List.range N).length := (List.nodup_iff_count.1 h1 |> fun _ => List.Nodup.length_le_of_subset h1 (by
      intro j hj
      rcases List.mem_cons.1 hj with rfl | hj
      · simpa using hnN
      · simpa using ((h.mem j).1 hj).1))
    simp at h2; omega
  have i0 : (0 : Int) ≤ (n : Int) := by omega
  have i1 : n < 500 := by omega
  have hwr : IntKind.i64.wrap ((N : Int) - fl.length - 1) = (N : Int) - (fl.length + 1) := by rw [IntWalk.i64_in _ (by omega)]; omega
  obtain ⟨ho, hx⟩ := hm n o hn
  have HX := Lib.hid hx
  have HB := Lib.hid hb
  have HM := Lib.hid hm
  have HF := Lib.hid hf
  have HC := Lib.hid hch
  have q1 := hb.free
  have q2 := hb.used
  have f1 := hb.frozen 4001
  have f2 := hb.frozen 4002
  have l1 := hb.lt
  clear hx ho hm hb hn hf hch
  go_enter Try.func138, Try.ntmps138
  go_wp2_with fail
  refine (arAt_in _ ba N ord nx _ _ HB.out hN n hnN HX.out).mono ?_
  rintro e w1 ⟨rfl, rfl⟩
  go_wp2_with (refine wpList_storeSlot rfl (.tmp 17) (.tmp 16) rfl ord0 (hdI fl) rfl rfl HB.out i1 ?_
               intro w2 hb2 F2
               have q1 := hb2.free
               have q2 := hb2.used
               have f1 := hb2.frozen 4001
               have f2 := hb2.frozen 4002
               have l1 := hb2.lt)
  go_ret
  refine ⟨rfl, (F2.setIn (by simp)).setIn (by simp), ⟨⟨_, _, (hb2.setFree n).setUsed ((N : Int) - (fl.length + 1)), ⟨updO_same _ _ _, ChainA.upd hnfl HC.out⟩, ?_, ?_⟩, List.nodup_cons.2 ⟨hnfl, h.nd⟩, ?_, ?_, h.N1, h.N2, by simp; omega⟩⟩
  · intro j p hj
    by_cases e : j = n
    · subst e
      rw [updO_same] at hj; cases hj
    · rw [updO_ne e] at hj
      rw [updO_ne e, updO_ne e]; exact HM.out j p hj
  · intro j hj
    rcases List.mem_cons.1 hj with rfl | hj
    · rw [updO_same]
      cases fl with
      | nil => simp [hdI]
      | cons a r => simp [hdI]
    · rw [updO_ne (show j ≠ n from fun e => hnfl (e ▸ hj))]; exact HF.out j hj
  · intro j
    have := h.mem j
    by_cases e : j = n
    · subst e
      simp [updO_same, hnN]
    · rw [updO_ne e, ← this]; simp [e]
  · intro j hj
    rw [updO_ne (by omega)]; exact h.out j hj
end Go.Proofs.Ytkimldeagndgjaa
