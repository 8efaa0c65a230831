/- Package fix, walked: Add, Down, Up. -/
import Derived.Test.YtkimldeagndgjaaProg
import Derived.Test.YtkimldeagndgjaaBits
namespace Go.Proofs.Ytkimldeagndgjaa
set_option linter.unusedVariables false
set_option linter.unusedSimpArgs false
open Go.RowKit

def In64 (x : Int) : Prop := -9223372036854775808 ≤ x ∧ x ≤ 9223372036854775807
instance (x : Int) : Decidable (In64 x) := inferInstanceAs (Decidable (_ ∧ _))

theorem add_in (w : World) (a b : Int) (ha : In64 a) (hb : In64 b) (h : In64 (a + b)) :
    Calls Try.prog 104 #[.int .i64 a, .int .i64 b] w fun e w' => e = .returned (.tuple #[.int .i64 (a + b), .bool true]) ∧ w = w' := by
  unfold In64 at ha hb h
  have hw : wrap64 (a + b) = a + b := by unfold wrap64; omega
  have hk : ¬ bits .and .i64 (bits .xor .i64 a (a + b)) (bits .xor .i64 b (a + b)) < 0 := by
    have := add_bits a b ha hb
    rw [hw] at this
    rw [this]; omega
  clear hw
  go_enter Try.func104, Try.ntmps104
  go_wp2
  go_ret2
  exact ⟨rfl, rfl⟩

theorem add_out (w : World) (a b : Int) (ha : In64 a) (hb : In64 b) (h : ¬ In64 (a + b)) :
    Calls Try.prog 104 #[.int .i64 a, .int .i64 b] w fun e w' => e = .returned (.tuple #[.int .i64 0, .bool false]) ∧ w = w' := by
  have hk : bits .and .i64 (bits .xor .i64 a (wrap64 (a + b))) (bits .xor .i64 b (wrap64 (a + b))) < 0 := (add_bits a b ha hb).2 h
  clear ha hb h
  go_enter Try.func104, Try.ntmps104
  go_wp2
  go_ret2
  exact ⟨rfl, rfl⟩

def downI (p g : Int) : Int := if p < 0 ∨ g < 1 then 0 else p / g * g
theorem downI_bd {p g : Int} (h0 : 0 ≤ p) (h1 : 1 ≤ g) : 0 ≤ p / g * g ∧ p / g * g ≤ p ∧ p < p / g * g + g := by
  have e := Int.emod_add_mul_ediv p g
  have l := Int.emod_nonneg p (show g ≠ 0 by omega)
  have u := Int.emod_lt_of_pos p (show 0 < g by omega)
  have d := Int.ediv_nonneg h0 (show 0 ≤ g by omega)
  have m : g * (p / g) = p / g * g := Int.mul_comm _ _
  have n : 0 ≤ p / g * g := Int.mul_nonneg d (by omega)
  refine ⟨n, ?_, ?_⟩ <;> omega

theorem down_any (w : World) (p g : Int) (hp : In64 p) (hg : In64 g) :
    Calls Try.prog 121 #[.int .i64 p, .int .i64 g] w fun e w' => e = .returned (.int .i64 (downI p g)) ∧ w = w' := by
  unfold In64 at hp hg
  by_cases c : p < 0 ∨ g < 1
  · have hd : downI p g = 0 := by unfold downI; rw [if_pos c]
    rw [hd]
    clear hd
    rcases c with c | c
    all_goals
      go_enter Try.func121, Try.ntmps121
      go_wp2
      all_goals
        go_ret
        exact ⟨rfl, rfl⟩
  · have hd : downI p g = p / g * g := by unfold downI; rw [if_neg c]
    rw [hd]
    have h0 : 0 ≤ p := by omega
    have h1 : 1 ≤ g := by omega
    obtain ⟨d1, d2, _⟩ := downI_bd h0 h1
    clear hd c
    go_enter Try.func121, Try.ntmps121
    go_wp2
    go_ret
    exact ⟨rfl, rfl⟩
end Go.Proofs.Ytkimldeagndgjaa
