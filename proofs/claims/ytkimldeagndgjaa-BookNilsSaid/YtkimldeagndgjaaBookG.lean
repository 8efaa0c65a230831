/- A book: Front, Worth, Best by the list of its orders. -/
import Derived.Test.YtkimldeagndgjaaBookF
import Derived.Outline
namespace Go.Proofs.Ytkimldeagndgjaa
set_option linter.unusedVariables false
set_option linter.unusedSimpArgs false
open Go.RowKit

def sumO (l : List Ord) : Int := (l.map (·.qt)).sum
theorem sumS_sumO (ord : Nat → Ord) (l : List Nat) : sumS ord l = sumO (l.map ord) := by unfold sumS sumO; rw [List.map_map]; rfl

theorem bookFront_no (w : World) (b : Nat) (D : List Nat) (N K : Nat) (L : List Ord) (h : BookI w b D N K L) (s : Int) (hs : s = 0 ∨ s = 1) (hY : OfL s L []) :
    Calls Try.prog 30 #[.pointer (some ⟨b, 0, none⟩), .int .i64 s] w fun e w' => e = .returned (.tuple #[.agg ord0.a, .bool false]) ∧ Fr [] w w' := by
  obtain ⟨ba, bi, bs, bm, l0, q0, n0, e0, l1, q1, n1, e1, v0, v1, fl, m, ix, T, ord, hr, rfl, rfl⟩ := h
  rcases hs with rfl | rfl
  · obtain ⟨X, hX⟩ := hr.s0.slots
    have hn : X = [] := List.map_eq_nil_iff.1 (hX.ofL.unique hY)
    subst hn
    exact bkFront_no w b l0 q0 n0 e0 1 v0 N K T ord 0 _ hr.blk rfl (fun W => of_side0 W b) hr.s0 hX
  · obtain ⟨X, hX⟩ := hr.s1.slots
    have hn : X = [] := List.map_eq_nil_iff.1 (hX.ofL.unique hY)
    subst hn
    exact bkFront_no w b l1 q1 n1 e1 3 v1 N K T ord 1 _ hr.blk rfl (fun W => of_side1 W b) hr.s1 hX
theorem bookFront (w : World) (b : Nat) (D : List Nat) (N K : Nat) (L : List Ord) (h : BookI w b D N K L) (s : Int) (hs : s = 0 ∨ s = 1) (o : Ord) (Y : List Ord) (hY : OfL s L (o :: Y)) :
    Calls Try.prog 30 #[.pointer (some ⟨b, 0, none⟩), .int .i64 s] w fun e w' => e = .returned (.tuple #[.agg o.a, .bool true]) ∧ Fr [] w w' := by
  obtain ⟨ba, bi, bs, bm, l0, q0, n0, e0, l1, q1, n1, e1, v0, v1, fl, m, ix, T, ord, hr, rfl, rfl⟩ := h
  rcases hs with rfl | rfl
  · obtain ⟨X, hX⟩ := hr.s0.slots
    obtain ⟨i, r, rfl, rfl, _⟩ := List.map_eq_cons_iff.1 (hX.ofL.unique hY)
    exact bkFront_core w b ba l0 q0 n0 e0 1 v0 N K fl m T ord 0 _ i r hr.blk rfl rfl rfl (fun W => of_side0 W b) hr.a (hr.mt i (hX.mem.1 (by simp)).1) hr.s0 hX
  · obtain ⟨X, hX⟩ := hr.s1.slots
    obtain ⟨i, r, rfl, rfl, _⟩ := List.map_eq_cons_iff.1 (hX.ofL.unique hY)
    exact bkFront_core w b ba l1 q1 n1 e1 3 v1 N K fl m T ord 1 _ i r hr.blk rfl rfl rfl (fun W => of_side1 W b) hr.a (hr.mt i (hX.mem.1 (by simp)).1) hr.s1 hX

theorem bookWorth (w : World) (b : Nat) (D : List Nat) (N K : Nat) (L : List Ord) (h : BookI w b D N K L) (s : Int) (hs : s = 0 ∨ s = 1) (Y : List Ord) (hY : OfL s L Y) (lim : Int) (hl : In63 lim) :
    Calls Try.prog 45 #[.pointer (some ⟨b, 0, none⟩), .int .i64 s, .int .i64 lim] w fun e w' => e = .returned (.int .i64 (sumO (Y.filter fun a => decide (¬ keyI s lim < keyI s a.pr)))) ∧ Fr [] w w' := by
  obtain ⟨ba, bi, bs, bm, l0, q0, n0, e0, l1, q1, n1, e1, v0, v1, fl, m, ix, T, ord, hr, rfl, rfl⟩ := h
  have key : ∀ X : List Nat, X.map ord = Y → sumS ord (X.filter fun a => decide (¬ keyI s lim < keyI s (ord a).pr)) = sumO (Y.filter fun a => decide (¬ keyI s lim < keyI s a.pr)) := by
    intro X hX
    rw [sumS_sumO, ← hX, List.filter_map]; rfl
  rcases hs with rfl | rfl
  · obtain ⟨X, hX⟩ := hr.s0.slots
    have hw := Lib.hid (side_worth w 0 l0 v0 q0 n0 e0 N K T ord hr.s0 hr.t X hX lim hl)
    have c1 := hr.blk.cell 1
    rw [← key X (hX.ofL.unique hY)]
    generalize sumS ord (X.filter fun a => decide (¬ keyI 0 lim < keyI 0 (ord a).pr)) = z at hw ⊢
    clear hr hX hY key
    go_enter Try.func45, Try.ntmps45
    go_wp2_with fail
    refine (of_side0 _ b).mono ?_
    rintro e w1 ⟨rfl, rfl⟩
    go_wp2_with fail
    refine hw.out.mono ?_
    rintro e w1 ⟨rfl, F1⟩
    go_wp2_with fail
    go_ret
    exact ⟨rfl, F1⟩
  · obtain ⟨X, hX⟩ := hr.s1.slots
    have hw := Lib.hid (side_worth w 1 l1 v1 q1 n1 e1 N K T ord hr.s1 hr.t X hX lim hl)
    have c1 := hr.blk.cell 3
    rw [← key X (hX.ofL.unique hY)]
    generalize sumS ord (X.filter fun a => decide (¬ keyI 1 lim < keyI 1 (ord a).pr)) = z at hw ⊢
    clear hr hX hY key
    go_enter Try.func45, Try.ntmps45
    go_wp2_with fail
    refine (of_side1 _ b).mono ?_
    rintro e w1 ⟨rfl, rfl⟩
    go_wp2_with fail
    refine hw.out.mono ?_
    rintro e w1 ⟨rfl, F1⟩
    go_wp2_with fail
    go_ret
    exact ⟨rfl, F1⟩
end Go.Proofs.Ytkimldeagndgjaa
