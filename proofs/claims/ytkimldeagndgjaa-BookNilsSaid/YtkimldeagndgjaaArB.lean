/- The arena of slots: words, and the methods that look, walked. -/
import Derived.Test.YtkimldeagndgjaaArA
import Derived.Test.YtkimldeagndgjaaUntil
import Derived.Deep.MidRow
import Derived.Outline
namespace Go.Proofs.Ytkimldeagndgjaa
set_option linter.unusedVariables false
set_option linter.unusedSimpArgs false
open Go.RowKit

/-- An order. -/
structure Ord where
  id : Int
  ow : Int
  sd : Int
  pr : Int
  qt : Int
  fl : Int
  sq : Int
deriving DecidableEq, Inhabited
abbrev Ord.l (o : Ord) : List Value := [.int .i64 o.id, .int .i64 o.ow, .int .i64 o.sd, .int .i64 o.pr, .int .i64 o.qt, .int .i64 o.fl, .int .i64 o.sq]
abbrev Ord.a (o : Ord) : Array Value := #[.int .i64 o.id, .int .i64 o.ow, .int .i64 o.sd, .int .i64 o.pr, .int .i64 o.qt, .int .i64 o.fl, .int .i64 o.sq]
def slotC (ord : Nat → Ord) (nx : Nat → Int) (i j : Nat) : Value := .int .i64 (match j with | 0 => (ord i).id | 1 => (ord i).ow | 2 => (ord i).sd | 3 => (ord i).pr | 4 => (ord i).qt | 5 => (ord i).fl | 6 => (ord i).sq | _ => nx i)
def updO {α : Type} (f : Nat → α) (k : Nat) (v : α) : Nat → α := fun j => if j = k then v else f j
theorem updO_same {α : Type} (f : Nat → α) (k : Nat) (v : α) : updO f k v k = v := by simp [updO]
theorem updO_ne {α : Type} {f : Nat → α} {k j : Nat} {v : α} (h : j ≠ k) : updO f k v j = f j := by simp [updO, h]

/-- The arena in memory. -/
abbrev BlkA (w : World) (ba : Nat) (ord : Nat → Ord) (nx : Nat → Int) (s fr u : Int) : Prop := Blk w ba 195 (arenaA (slotC ord nx) s fr u)

theorem arenaA_congr {f g : Nat → Nat → Value} {s fr u : Int} (h : ∀ i j, i < 500 → j < 8 → f i j = g i j) : arenaA f s fr u = arenaA g s fr u := by
  unfold arenaA; rw [grid_congr h]

section
variable {w : World} {ba : Nat} {ord : Nat → Ord} {nx : Nat → Int} {s fr u : Int}
theorem BlkA.next (h : BlkA w ba ord nx s fr u) {i : Nat} (hi : i < 500) : w.cell? ⟨ba, i * 8 + 7, none⟩ = some (.int .i64 (nx i)) := by
  rw [h.cell, arenaA_slot hi (by omega)]; rfl
theorem BlkA.size (h : BlkA w ba ord nx s fr u) : w.cell? ⟨ba, 4000, none⟩ = some (.int .i64 s) := by rw [h.cell]; exact arenaA_tail (j := 0)
theorem BlkA.free (h : BlkA w ba ord nx s fr u) : w.cell? ⟨ba, 4001, none⟩ = some (.int .i64 fr) := by rw [h.cell]; exact arenaA_tail (j := 1)
theorem BlkA.used (h : BlkA w ba ord nx s fr u) : w.cell? ⟨ba, 4002, none⟩ = some (.int .i64 u) := by rw [h.cell]; exact arenaA_tail (j := 2)
theorem BlkA.order (h : BlkA w ba ord nx s fr u) {i : Nat} (hi : i < 500) : w.rangeAt ba (i * 8) (ord i).l := by
  intro j v hj
  have hl : j < 7 := (List.getElem?_eq_some_iff.1 hj).1
  rw [h.cell, arenaA_slot hi (by omega), ← hj]
  rcases (show j = 0 ∨ j = 1 ∨ j = 2 ∨ j = 3 ∨ j = 4 ∨ j = 5 ∨ j = 6 by omega) with rfl | rfl | rfl | rfl | rfl | rfl | rfl <;> rfl
theorem BlkA.there (h : BlkA w ba ord nx s fr u) {i n : Nat} (hi : i < 500) (hn : n ≤ 8) : w.there ba (i * 8) n := by
  intro j hj
  exact ⟨by rw [h.cell, arenaA_slot hi (by omega)]; rfl, h.frozen _⟩
theorem BlkA.setNext (h : BlkA w ba ord nx s fr u) {i : Nat} (hi : i < 500) (v : Int) : BlkA (w.setCell ⟨ba, i * 8 + 7, none⟩ (.int .i64 v)) ba ord (updO nx i v) s fr u := by
  refine (h.same (i * 8 + 7) (.int .i64 v)).cast ?_
  rw [arenaA_set hi (by omega)]
  refine arenaA_congr fun a b _ hb => ?_
  by_cases e : a = i
  · subst e
    rcases (show b = 0 ∨ b = 1 ∨ b = 2 ∨ b = 3 ∨ b = 4 ∨ b = 5 ∨ b = 6 ∨ b = 7 by omega) with rfl | rfl | rfl | rfl | rfl | rfl | rfl | rfl <;> simp [slotC, updO]
  · simp [slotC, updO, e]
theorem BlkA.setFree (h : BlkA w ba ord nx s fr u) (v : Int) : BlkA (w.setCell ⟨ba, 4001, none⟩ (.int .i64 v)) ba ord nx s v u := by
  refine (h.same 4001 (.int .i64 v)).cast ?_
  exact (arenaA_setT (j := 1) _).trans rfl
theorem BlkA.setUsed (h : BlkA w ba ord nx s fr u) (v : Int) : BlkA (w.setCell ⟨ba, 4002, none⟩ (.int .i64 v)) ba ord nx s fr v := by
  refine (h.same 4002 (.int .i64 v)).cast ?_
  exact (arenaA_setT (j := 2) _).trans rfl
theorem BlkA.setOrder (h : BlkA w ba ord nx s fr u) {i : Nat} (hi : i < 500) (o : Ord) : BlkA (w.setCells ba (i * 8) o.l) ba (updO ord i o) nx s fr u := by
  have e0 := h.same (i * 8 + 0) (.int .i64 o.id)
  have e1 := e0.same (i * 8 + 1) (.int .i64 o.ow)
  have e2 := e1.same (i * 8 + 2) (.int .i64 o.sd)
  have e3 := e2.same (i * 8 + 3) (.int .i64 o.pr)
  have e4 := e3.same (i * 8 + 4) (.int .i64 o.qt)
  have e5 := e4.same (i * 8 + 5) (.int .i64 o.fl)
  have e6 := e5.same (i * 8 + 6) (.int .i64 o.sq)
  refine Blk.cast e6 ?_
  rw [arenaA_set hi (by omega), arenaA_set hi (by omega), arenaA_set hi (by omega), arenaA_set hi (by omega), arenaA_set hi (by omega), arenaA_set hi (by omega), arenaA_set hi (by omega)]
  refine arenaA_congr fun a b _ hb => ?_
  by_cases e : a = i
  · subst e
    rcases (show b = 0 ∨ b = 1 ∨ b = 2 ∨ b = 3 ∨ b = 4 ∨ b = 5 ∨ b = 6 ∨ b = 7 by omega) with rfl | rfl | rfl | rfl | rfl | rfl | rfl | rfl <;> simp [slotC, updO]
  · simp [slotC, updO, e]
theorem setCells_append (b : Nat) : ∀ (x y : List Value) (o : Nat) (w : World), w.setCells b o (x ++ y) = (w.setCells b o x).setCells b (o + x.length) y
  | [], _, _, _ => by simp [World.setCells]
  | v :: r, y, o, w => by
    simp only [List.cons_append, World.setCells, setCells_append b r y, List.length_cons]
    rw [show o + 1 + r.length = o + (r.length + 1) by omega]
theorem BlkA.setSlot (h : BlkA w ba ord nx s fr u) {i : Nat} (hi : i < 500) (o : Ord) (n : Int) : BlkA (w.setCells ba (i * 8) (o.l ++ [.int .i64 n])) ba (updO ord i o) (updO nx i n) s fr u := by
  rw [setCells_append]
  exact (h.setOrder hi o).setNext hi n
theorem fr_setCells {a : World} {S : List Nat} (b : Nat) (hb : b ∈ S ∨ a.heap.size ≤ b) : ∀ (x : List Value) (o : Nat) (w : World), Fr S a w → Fr S a (w.setCells b o x)
  | [], _, _, h => h
  | v :: r, o, w, h => fr_setCells b hb r (o + 1) _ (h.set hb v)
theorem Blk.cells {g : Nat} {t : TypeId} {cs : Array Value} {b : Nat} (hne : g ≠ b) : ∀ (x : List Value) (o : Nat) (w : World), Blk w g t cs → Blk (w.setCells b o x) g t cs
  | [], _, _, h => h
  | v :: r, o, w, h => Blk.cells hne r (o + 1) _ (h.off hne)
end

/-- What the free slots' chain says. -/
def hdI : List Nat → Int
  | [] => -1
  | i :: _ => i
def ChainA (nx : Nat → Int) : List Nat → Prop
  | [] => True
  | i :: r => nx i = hdI r ∧ ChainA nx r
theorem ChainA.upd {nx : Nat → Int} {k : Nat} {v : Int} : ∀ {l : List Nat}, k ∉ l → ChainA nx l → ChainA (updO nx k v) l
  | [], _, _ => trivial
  | i :: r, h, hc => ⟨by rw [updO_ne (fun e => h (by simp [e]))]; exact hc.1, ChainA.upd (fun e => h (by simp [e])) hc.2⟩

/-- The arena: fl the free slots in the chain's order, m the orders that are there. -/
structure ArI (w : World) (ba N : Nat) (fl : List Nat) (m : Nat → Option Ord) : Prop where
  b : ∃ ord nx, BlkA w ba ord nx N (hdI fl) ((N : Int) - fl.length) ∧ ChainA nx fl ∧ (∀ i o, m i = some o → ord i = o ∧ nx i = -2) ∧ (∀ i ∈ fl, nx i ≠ -2)
  nd : fl.Nodup
  mem : ∀ i, i ∈ fl ↔ i < N ∧ m i = none
  out : ∀ i, N ≤ i → m i = none
  N1 : 1 ≤ N
  N2 : N ≤ 500
  len : fl.length ≤ N
theorem ArI.fr {w W : World} {ba N : Nat} {fl : List Nat} {m : Nat → Option Ord} (h : ArI w ba N fl m) {S : List Nat} (hf : Fr S w W) (h1 : ba ∉ S) : ArI W ba N fl m := by
  obtain ⟨ord, nx, hb, hr⟩ := h.b
  exact ⟨⟨ord, nx, Blk.via hf h1 hb, hr⟩, h.nd, h.mem, h.out, h.N1, h.N2, h.len⟩

theorem arRoom_any (w : World) (ba N : Nat) (fl : List Nat) (m : Nat → Option Ord) (h : ArI w ba N fl m) :
    Calls Try.prog 109 #[.pointer (some ⟨ba, 0, none⟩)] w fun e w' => e = .returned (.int .i64 fl.length) ∧ Fr [] w w' := by
  obtain ⟨ord, nx, hb, _⟩ := h.b
  have h1 := h.N2
  have h2 := h.len
  have hv : IntKind.i64.wrap ((N : Int) - ((N : Int) - fl.length)) = fl.length := by rw [IntWalk.i64_in _ (by omega)]; omega
  go_enter Try.func109, Try.ntmps109
  go_wp2_with fail
  refine wp_region_soft (by kernel_rfl) (by kernel_rfl) ?_; (repeat (refine wpQuiet_step (fun K hK => ?_); (first | ((fail); go_simp; refine hK _ ?_; clear hK K) | (apply soft_do; (rfl); (focus (intro W hC; (have q1 := BlkA.size (Blk.via hC (by simp) hb); have q2 := BlkA.used (Blk.via hC (by simp) hb)); go_simp; (first | (fail) | done | rfl | exact ⟨rfl, rfl⟩))); (go_simp; refine hK _ ?_; clear hK K)) | (apply soft_skip; (rfl); (go_simp; refine hK _ ?_; clear hK K))))); refine wpQuiet_nil ?_
  intro w1 F1
  go_wp2_with fail
  go_ret
  exact ⟨rfl, F1⟩
theorem arUsed_any (w : World) (ba N : Nat) (fl : List Nat) (m : Nat → Option Ord) (h : ArI w ba N fl m) :
    Calls Try.prog 92 #[.pointer (some ⟨ba, 0, none⟩)] w fun e w' => e = .returned (.int .i64 ((N : Int) - fl.length)) ∧ Fr [] w w' := by
  obtain ⟨ord, nx, hb, _⟩ := h.b
  have q2 := BlkA.used hb
  go_enter Try.func92, Try.ntmps92
  go_wp2_with fail
  go_ret
  exact ⟨rfl, Fr.refl _ _⟩
set_option maxRecDepth 20000 in
theorem arAt_in (w : World) (ba N : Nat) (ord : Nat → Ord) (nx : Nat → Int) (fr u : Int) (hb : BlkA w ba ord nx N fr u) (hN : N ≤ 500) (n : Nat) (hn : n < N) (hx : nx n = -2) :
    Calls Try.prog 141 #[.pointer (some ⟨ba, 0, none⟩), .int .i64 n] w fun e w' => e = .returned (.pointer (some ⟨ba, n * 8, none⟩)) ∧ w = w' := by
  have q1 := hb.size
  have i1 : n < 500 := by omega
  have i2 : (n : Int) < 500 := by omega
  have q2 := hb.next i1
  rw [hx] at q2
  have HX := Lib.hid hx
  clear hb hx
  go_enter Try.func141, Try.ntmps141
  go_wp2_with fail
  go_ret
  exact ⟨rfl, rfl⟩
end Go.Proofs.Ytkimldeagndgjaa
