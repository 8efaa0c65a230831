/- The law LadderSorts, walked. -/
import Derived.Test.YtgddmkgmpibpgaaLadS0
import Derived.Test.YtgddmkgmpibpgaaLadS1
namespace Go.Proofs.Ytgddmkgmpibpgaa
set_option linter.unusedVariables false
set_option linter.unusedSimpArgs false
open Go.RowKit Go.Shelf

set_option maxHeartbeats 4000000 in
set_option maxRecDepth 10000 in
theorem ladderSorts_walk (w : World) (a0 : Int) (A1 : Option Addr) (n1 c1 : Nat) (F1 : Nat → Nat → Int) (b0 : -9223372036854775808 ≤ a0 ∧ a0 ≤ 9223372036854775807) (w1 : IntRow w A1 n1 1 F1) (m1 : n1 ≤ maxLen) :
    Calls Try.prog 11 #[.int .i64 a0, .slice A1 n1 c1] w fun e w' => e = .returned (.bool true) ∧ Below w.heap.size w w' := by
  have hm1 : n1 ≤ 9223372036854775807 := by simp only [maxLen] at m1; omega
  have hm1' : (n1 : Int) ≤ 9223372036854775807 := by omega
  have W1 := Lib.hid w1
  clear w1 m1 b0
  by_cases hgo : (a0 ≠ 0 ∧ a0 ≠ 1) ∨ 40 < n1
  · have hc : ((a0 != 0) = true ∧ (a0 != 1) = true) ∨ (a0 = 0 ∧ (40 : Int) < (n1 : Int)) ∨ (a0 = 1 ∧ (40 : Int) < (n1 : Int)) := by
      by_cases h0 : a0 = 0
      · exact .inr (.inl ⟨h0, by omega⟩)
      · by_cases h1 : a0 = 1
        · exact .inr (.inr ⟨h1, by omega⟩)
        · exact .inl ⟨by simpa using h0, by simpa using h1⟩
    clear hgo
    rcases hc with ⟨t1, t2⟩ | ⟨rfl, t1⟩ | ⟨rfl, t1⟩
    all_goals
      go_enter Try.func11, Try.ntmps11
      go_wp2_with fail
      refine (ladAlive_any _).mono ?_
      rintro e w2 ⟨rfl, G1⟩
      go_wp2_with fail
      go_ret
      exact ⟨rfl, G1.toBelow⟩
  · have hs : a0 = 0 ∨ a0 = 1 := by omega
    have t1 : ¬ (40 : Int) < (n1 : Int) := by omega
    have n40 : n1 ≤ 40 := by omega
    clear hgo
    have hm : n1 ≤ 9223372036854775807 := by omega
    have HP := Lib.hid (show ∀ W, Fr [] w W → ∀ k, k < n1 → ∃ ab ao, A1 = some ⟨ab, ao, none⟩ ∧ W.cell? ⟨ab, ao + k, none⟩ = some (.int .i64 (F1 k 0)) from fun W F k hk => by
      obtain ⟨ab, ao, e, hab, hcell⟩ := W1.out.2 (by omega)
      exact ⟨ab, ao, e, by simpa using (F.cell ab _ hab).trans (hcell k 0 hk (by omega))⟩)
    rcases hs with rfl | rfl
    · exact sorts_0 w A1 n1 c1 (fun k => F1 k 0) hm t1 n40 HP
    · exact sorts_1 w A1 n1 c1 (fun k => F1 k 0) hm t1 n40 HP
end Go.Proofs.Ytgddmkgmpibpgaa
