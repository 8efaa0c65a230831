/- Words for loops over iterators: what a round keeps, and invariants that abide the loop's own records. No program stands in this text. -/
import Derived.RangeFuncNested
import Derived.RangeFuncBound
import Derived.RangeFuncCalls
import Derived.RangeFuncLeaves
import Derived.RangeFuncFrom
import Derived.Shelf.Abstract
import Derived.Shelf.RegionOpen
import Derived.OwnWalkIn
import Derived.TacticsInMore
import Derived.LoopNIn
import Derived.LoopIn
import Derived.Test.YtkimldeagndgjaaMem
namespace Go.Proofs.Ytkimldeagndgjaa
set_option linter.unusedVariables false
set_option linter.unusedSimpArgs false
open Go.RowKit Go.Shelf

/-- The blocks of S lie as they lay. -/
def Same (S : List Nat) (W W' : World) : Prop := W.heap.size ≤ W'.heap.size ∧ ∀ k ∈ S, W'.heap[k]? = W.heap[k]?
theorem Same.refl (S : List Nat) (W : World) : Same S W W := ⟨Nat.le_refl _, fun _ _ => rfl⟩
theorem Same.trans {S : List Nat} {A B C : World} (h : Same S A B) (k : Same S B C) : Same S A C := ⟨Nat.le_trans h.1 k.1, fun i hi => (k.2 i hi).trans (h.2 i hi)⟩
theorem Same.blk {S : List Nat} {W W' : World} {g : Nat} {t : TypeId} {cs : Array Value} (h : Same S W W') (hg : g ∈ S) (b : Blk W g t cs) : Blk W' g t cs := (h.2 g hg).trans b
theorem Same.of_fr {S T : List Nat} {W W' : World} (h : Fr T W W') (hd : ∀ k ∈ S, k ∉ T) (hl : ∀ k ∈ S, k < W.heap.size) : Same S W W' := ⟨h.size, fun k hk => h.block k (hl k hk) (hd k hk)⟩
theorem same_t {S : List Nat} {A B C : World} (h : Same S A B) (k : Same S B C) : Same S A C := h.trans k
theorem same_b {S : List Nat} {w : World} (hS : ∀ k ∈ S, k < w.heap.size) (W : World) (l : Nat) (o o' : Obj) (hl : w.heap.size ≤ l) (h : W.heap[l]? = some o) (_ : o.isCells = false) (_ : o.isWalk = false) : Same S W (W.putObj l o') :=
  ⟨by simp, fun k hk => World.putObj_heap_other (fun e => by have := hS k hk; omega)⟩

theorem fr_grown {S : List Nat} {a W W' : World} {row : Option Nat} (h : Fr S a W) (hg : W.grownBy W' row) (hr : ∀ r, row = some r → a.heap.size ≤ r) : Fr S a W' :=
  ⟨hg.os.trans h.os, hg.tape.trans h.tape, hg.output.trans h.output, Nat.le_trans h.size hg.size, fun k hk hn => (hg.block k (Nat.lt_of_lt_of_le hk h.size) (fun e => by have := hr k e.symm; omega)).trans (h.block k hk hn)⟩
theorem ownFrom_fr {β : Type} {S : List Nat} {a : World} {B : Nat} (hB : a.heap.size ≤ B) : OwnFrom B (fun (_ : β) W => Fr S a W) :=
  fun _ _ _ _ hs hg hr => fr_grown hs hg (fun r e => Nat.le_trans hB (hr r e).1)
theorem blk_grown {W W' : World} {row : Option Nat} {g : Nat} {t : TypeId} {cs : Array Value} (h : Blk W g t cs) (hg : W.grownBy W' row) (hr : ∀ r, row = some r → ∃ o : Obj, W.heap[r]? = some o ∧ o.isCells = false) : Blk W' g t cs :=
  (hg.block g h.lt (fun e => by
    obtain ⟨o, ho, hc⟩ := hr g e.symm
    rw [show W.heap[g]? = _ from h] at ho
    cases ho
    cases hc)).trans h
theorem own_blk {β : Type} (g : Nat) (t : TypeId) (f : β → Array Value) : Own (fun s W => Blk W g t (f s)) := fun _ _ _ _ hs hg hr => blk_grown hs hg hr

theorem wp_name_act {P : Program} {c : Code} {Q : Exit → Act → World → Prop} {a : Act} {w : World} (h : ∀ A, A = a → Code.wp P c Q A w) : Code.wp P c Q a w := h a rfl
/-- The frame behind the laying of what an iterator tells. -/
def layd (A : Act) (ps : Array Tmp) (vs : Array Value) : Act := { tmps := (ps.zip vs).foldl (fun t (p, v) => t.setIfInBounds p v) A.tmps, defers := [] }
theorem fr_put {S : List Nat} {a W : World} (h : Fr S a W) {D : Nat} {o : Obj} (hD : a.heap.size ≤ D) : Fr S a (W.putObj D o) := fr_grown h (grownBy_putObj' W D o) (fun r e => by cases e; exact hD)
theorem blk_put {W : World} {g : Nat} {t : TypeId} {cs : Array Value} (h : Blk W g t cs) {D : Nat} {o o' : Obj} (hD : W.heap[D]? = some o) (ho : o.isCells = false) : Blk (W.putObj D o') g t cs :=
  blk_grown h (grownBy_putObj' W D o') (fun r e => by cases e; exact ⟨o, hD, ho⟩)
/-- The block for the rounds' deferred calls is kept where no block is turned but of S. -/
theorem def_fr {S : List Nat} {W W' : World} {D : Nat} {o : Obj} (hf : Fr S W W') (hD : W.heap[D]? = some o) (hS : D ∉ S) : W'.heap[D]? = some o := (hf.block D (Array.getElem?_eq_some_iff.1 hD).1 hS).trans hD

/-- The rest of a list, behind which an iterator by links stands: a measure. -/
def leftOf (l : List Nat) (v : Value) : Nat := match v with | .int _ z => if z = -1 then 0 else l.length - l.idxOf z.toNat | _ => 0

theorem idxOf_split {l A B : List Nat} {x : Nat} (hn : l.Nodup) (h : l = A ++ x :: B) : l.idxOf x = A.length := by
  subst h
  have : x ∉ A := fun hx => by
    have := (List.nodup_append.1 hn).2.2 x hx x (by simp)
    exact this rfl
  rw [List.idxOf_append]
  simp [this]
end Go.Proofs.Ytkimldeagndgjaa
