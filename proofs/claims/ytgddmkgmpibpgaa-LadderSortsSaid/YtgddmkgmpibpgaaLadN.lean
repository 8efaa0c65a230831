/- What the law LadderSorts keeps. -/
import Derived.Test.YtgddmkgmpibpgaaLadM
import Derived.Test.YtgddmkgmpibpgaaRow
namespace Go.Proofs.Ytgddmkgmpibpgaa
set_option linter.unusedVariables false
set_option linter.unusedSimpArgs false
open Go.RowKit Go.Shelf

theorem info_bool : (Try.prog.info? 4).map (fun i => (i.zero, i.size, i.bytes)) = some (some (.bool false), 1, 1) := by kernel_rfl

/-- What the second loop keeps: the first i levels of f are taken out. -/
structure TInv (w W : World) (lp bi : Nat) (side : Int) (n i : Nat) (f : Nat → Lvl) (v : Value) (u : Nat → Nat) : Prop where
  ld : LadI W lp side 40 v u (n - i) (fun j => f (i + j))
  fr : Fr [] w W
  own0 : ∀ g, v.ownBlock = some g → w.heap.size ≤ g
  b : Blk W bi 4 (row1 40 (fun q => .bool (innF f i q)))

theorem LadI.own_off {W : World} {lp : Nat} {side most : Int} {v : Value} {u : Nat → Nat} {n : Nat} {f : Nat → Lvl} (h : LadI W lp side most v u n f) {b : Nat} {t : TypeId} {cs : Array Value} (B : Blk W b t cs) (ht : 85 ≠ t) : v.ownBlock ≠ some b := fun e => by
  rcases h.r.r with ⟨e', _⟩ | ⟨lb, cap, cur, e', _, B', _⟩
  · rw [e'] at e; cases e
  · rw [e'] at e; cases e
    exact B'.ne B ht rfl
theorem sumN_le {g : Nat → Nat} {B : Nat} (h : ∀ j, g j ≤ B) (n : Nat) : sumN g n ≤ n * B := by
  induction n with
  | zero => simp [sumN]
  | succ n ih => simp only [sumN]; have := h n; rw [Nat.succ_mul]; omega
theorem updF_eta {g : Nat → Lvl} {x : Lvl} (h : g 0 = x) : updF g 0 x = g := by
  funext j
  unfold updF
  split
  · rename_i c; rw [c, h]
  · rfl

end Go.Proofs.Ytgddmkgmpibpgaa
