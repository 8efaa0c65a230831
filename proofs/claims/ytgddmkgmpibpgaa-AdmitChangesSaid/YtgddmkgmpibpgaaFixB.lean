/- Package fix, walked: Price. -/
import Derived.Test.YtgddmkgmpibpgaaFix
namespace Go.Proofs.Ytgddmkgmpibpgaa
set_option linter.unusedVariables false
set_option linter.unusedSimpArgs false
open Go.RowKit

def priceI (p g : Int) : Int := if g < 1 then 1 else if p < 1 ∨ 1099511627776 < p then 9 else if downI p g = p then 0 else 8

theorem price_any (w : World) (p g : Int) (hp : In64 p) (hg : In64 g) :
    Calls Try.prog 64 #[.int .i64 p, .int .i64 g] w fun e w' => e = .returned (.int .i64 (priceI p g)) ∧ w = w' := by
  by_cases c1 : g < 1
  · have h : priceI p g = 1 := by unfold priceI; rw [if_pos c1]
    rw [h]; clear h hp hg
    go_enter Try.func64, Try.ntmps64
    go_wp2_with fail
    go_ret
    exact ⟨rfl, rfl⟩
  · by_cases c2 : p < 1 ∨ 1099511627776 < p
    · have h : priceI p g = 9 := by unfold priceI; rw [if_neg c1, if_pos c2]
      rw [h]; clear h hp hg
      rcases c2 with c2 | c2
      all_goals
        go_enter Try.func64, Try.ntmps64
        go_wp2_with fail
        go_ret
        exact ⟨rfl, rfl⟩
    · have c3 : 1 ≤ p := by omega
      have c4 : p ≤ 1099511627776 := by omega
      by_cases c5 : downI p g = p
      · have h : priceI p g = 0 := by unfold priceI; rw [if_neg c1, if_neg c2, if_pos c5]
        rw [h]
        have H5 := Lib.hid c5
        have HP := Lib.hid hp
        have HG := Lib.hid hg
        clear h hp hg c2 c5
        go_enter Try.func64, Try.ntmps64
        go_wp2_with fail
        refine (down_any _ p g HP.out HG.out).mono ?_
        rw [H5.out]
        rintro e w1 ⟨rfl, rfl⟩
        go_wp2_with fail
        go_ret
        exact ⟨rfl, rfl⟩
      · have h : priceI p g = 8 := by unfold priceI; rw [if_neg c1, if_neg c2, if_neg c5]
        rw [h]
        have h5 : (downI p g == p) = false := by simp [c5]
        have h6 : (downI p g != p) = true := by simp [c5]
        have HP := Lib.hid hp
        have HG := Lib.hid hg
        clear h hp hg c2 c5
        go_enter Try.func64, Try.ntmps64
        go_wp2_with fail
        refine (down_any _ p g HP.out HG.out).mono ?_
        rintro e w1 ⟨rfl, rfl⟩
        go_wp2_with fail
        go_ret
        exact ⟨rfl, rfl⟩

def pricedB (p : Int) : Bool := decide (1 ≤ p) && decide (p ≤ 1099511627776)
theorem priceI_one (p : Int) : (priceI p 1 == 0) = pricedB p := by
  unfold priceI pricedB
  rw [if_neg (by omega)]
  by_cases c : p < 1 ∨ 1099511627776 < p
  · rw [if_pos c]
    rcases c with c | c <;> simp <;> omega
  · have h : downI p 1 = p := by unfold downI; rw [if_neg (by omega)]; simp
    rw [if_neg c, if_pos h]
    simp; omega
end Go.Proofs.Ytgddmkgmpibpgaa
