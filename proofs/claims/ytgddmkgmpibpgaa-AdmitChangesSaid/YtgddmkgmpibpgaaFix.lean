/- Package fix, walked: Add, Down, Up. -/
import Derived.Test.YtgddmkgmpibpgaaProg
import Derived.Test.YtgddmkgmpibpgaaBits
namespace Go.Proofs.Ytgddmkgmpibpgaa
set_option linter.unusedVariables false
set_option linter.unusedSimpArgs false
open Go.RowKit

def In64 (x : Int) : Prop := -9223372036854775808 ≤ x ∧ x ≤ 9223372036854775807
instance (x : Int) : Decidable (In64 x) := inferInstanceAs (Decidable (_ ∧ _))

theorem add_in (w : World) (a b : Int) (ha : In64 a) (hb : In64 b) (h : In64 (a + b)) :
    Calls Try.prog 92 #[.int .i64 a, .int .i64 b] w fun e w' => e = .returned (.tuple #[.int .i64 (a + b), .bool true]) ∧ w = w' := by
  unfold In64 at ha hb h
  have hw : wrap64 (a + b) = a + b := by unfold wrap64; omega
  have hk : ¬ bits .and .i64 (bits .xor .i64 a (a + b)) (bits .xor .i64 b (a + b)) < 0 := by
    have := add_bits a b ha hb
    rw [hw] at this
    rw [this]; omega
  clear hw
  go_enter Try.func92, Try.ntmps92
  go_wp2
  go_ret2
  exact ⟨rfl, rfl⟩

theorem add_out (w : World) (a b : Int) (ha : In64 a) (hb : In64 b) (h : ¬ In64 (a + b)) :
    Calls Try.prog 92 #[.int .i64 a, .int .i64 b] w fun e w' => e = .returned (.tuple #[.int .i64 0, .bool false]) ∧ w = w' := by
  have hk : bits .and .i64 (bits .xor .i64 a (wrap64 (a + b))) (bits .xor .i64 b (wrap64 (a + b))) < 0 := (add_bits a b ha hb).2 h
  clear ha hb h
  go_enter Try.func92, Try.ntmps92
  go_wp2
  go_ret2
  exact ⟨rfl, rfl⟩

def downI (p g : Int) : Int := if p < 0 ∨ g < 1 then 0 else p / g * g
theorem downI_bd {p g : Int} (h0 : 0 ≤ p) (h1 : 1 ≤ g) : 0 ≤ p / g * g ∧ p / g * g ≤ p ∧ p < p / g * g + g := by
  have e := Int.emod_add_mul_ediv p g
  have l := Int.emod_nonneg p (show g ≠ 0 by omega)
  have u := Int.emod_lt_of_pos p (show 0 < g by omega)
  have d := Int.ediv_nonneg h0 (show 0 ≤ g by omega)
  have m : g * (p / g) = p / g * g := Int.mul_comm _ _
  have n : 0 ≤ p / g * g := Int.mul_nonneg d (by omega)
  refine ⟨n, ?_, ?_⟩ <;> omega

theorem down_any (w : World) (p g : Int) (hp : In64 p) (hg : In64 g) :
    Calls Try.prog 96 #[.int .i64 p, .int .i64 g] w fun e w' => e = .returned (.int .i64 (downI p g)) ∧ w = w' := by
  unfold In64 at hp hg
  by_cases c : p < 0 ∨ g < 1
  · have hd : downI p g = 0 := by unfold downI; rw [if_pos c]
    rw [hd]
    clear hd
    rcases c with c | c
    all_goals
      go_enter Try.func96, Try.ntmps96
      go_wp2
      all_goals
        go_ret
        exact ⟨rfl, rfl⟩
  · have hd : downI p g = p / g * g := by unfold downI; rw [if_neg c]
    rw [hd]
    have h0 : 0 ≤ p := by omega
    have h1 : 1 ≤ g := by omega
    obtain ⟨d1, d2, _⟩ := downI_bd h0 h1
    clear hd c
    go_enter Try.func96, Try.ntmps96
    go_wp2
    go_ret
    exact ⟨rfl, rfl⟩

/-- What Up tells. -/
def upI (p g : Int) : Int × Bool := if p < 0 ∨ g < 1 then (0, false) else if p / g * g = p then (p, true) else if In64 (p / g * g + g) then (p / g * g + g, true) else (0, false)

theorem up_any (w : World) (p g : Int) (hp : In64 p) (hg : In64 g) :
    Calls Try.prog 62 #[.int .i64 p, .int .i64 g] w fun e w' => e = .returned (.tuple #[.int .i64 (upI p g).1, .bool (upI p g).2]) ∧ w = w' := by
  by_cases c : p < 0 ∨ g < 1
  · have hd : upI p g = (0, false) := by unfold upI; rw [if_pos c]
    rw [hd]
    clear hd
    unfold In64 at hp hg
    rcases c with c | c
    all_goals
      go_enter Try.func62, Try.ntmps62
      go_wp2
      all_goals
        go_ret2
        exact ⟨rfl, rfl⟩
  · have h0 : 0 ≤ p := by omega
    have h1 : 1 ≤ g := by omega
    obtain ⟨d1, d2, _⟩ := downI_bd h0 h1
    have hd : downI p g = p / g * g := by unfold downI; rw [if_neg c]
    have HD := Lib.hid hd
    clear hd
    by_cases c2 : p / g * g = p
    · have hu : upI p g = (p, true) := by unfold upI; rw [if_neg c, if_pos c2]
      rw [hu]
      have HC := Lib.hid c2
      have hb : (p / g * g == p) = true := by simp [c2]
      clear hu c2
      have HP := Lib.hid hp
      have HG := Lib.hid hg
      clear hp hg
      go_enter Try.func62, Try.ntmps62
      go_wp2_with fail
      refine (down_any _ p g HP.out HG.out).mono ?_
      rw [HD.out]
      rintro e w1 ⟨rfl, rfl⟩
      go_wp2
      go_ret2
      exact ⟨rfl, rfl⟩
    · have hb : (p / g * g == p) = false := by simp [c2]
      by_cases c3 : In64 (p / g * g + g)
      · have hu : upI p g = (p / g * g + g, true) := by unfold upI; rw [if_neg c, if_neg c2, if_pos c3]
        rw [hu]
        clear hu c2
        have HP := Lib.hid hp
        have HG := Lib.hid hg
        have H3 := Lib.hid c3
        clear hp hg c3
        go_enter Try.func62, Try.ntmps62
        go_wp2_with fail
        refine (down_any _ p g HP.out HG.out).mono ?_
        rw [HD.out]
        rintro e w1 ⟨rfl, rfl⟩
        go_wp2_with fail
        refine (add_in _ _ g ⟨by omega, by have := HP.out.2; omega⟩ HG.out H3.out).mono ?_
        rintro e w1 ⟨rfl, rfl⟩
        go_wp2
        go_ret2
        exact ⟨rfl, rfl⟩
      · have hu : upI p g = (0, false) := by unfold upI; rw [if_neg c, if_neg c2, if_neg c3]
        rw [hu]
        clear hu c2
        have HP := Lib.hid hp
        have HG := Lib.hid hg
        have H3 := Lib.hid c3
        clear hp hg c3
        go_enter Try.func62, Try.ntmps62
        go_wp2_with fail
        refine (down_any _ p g HP.out HG.out).mono ?_
        rw [HD.out]
        rintro e w1 ⟨rfl, rfl⟩
        go_wp2_with fail
        refine (add_out _ _ g ⟨by omega, by have := HP.out.2; omega⟩ HG.out H3.out).mono ?_
        rintro e w1 ⟨rfl, rfl⟩
        go_wp2
        go_ret2
        exact ⟨rfl, rfl⟩
end Go.Proofs.Ytgddmkgmpibpgaa
