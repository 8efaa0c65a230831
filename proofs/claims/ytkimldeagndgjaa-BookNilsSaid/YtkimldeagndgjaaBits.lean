/- Plain laws on the bits of int64. -/
import Derived.Test.YtkimldeagndgjaaMem
import Derived.Laws.BitsAllLaws
import Derived.Laws.BitsLemmas
namespace Go.Proofs.Ytkimldeagndgjaa
set_option linter.unusedVariables false
set_option linter.unusedSimpArgs false
open Go.RowKit

theorem ofInt_msb (x : Int) (h : -9223372036854775808 ≤ x ∧ x ≤ 9223372036854775807) : (BitVec.ofInt 64 x).msb = decide (x < 0) := by
  rw [BitVec.msb_eq_decide, BitVec.toNat_ofInt]
  by_cases c : x < 0
  · simp only [c, decide_true, decide_eq_true_eq]; omega
  · simp only [c, decide_false, decide_eq_false_iff_not]; omega
theorem wrap_neg (v : BitVec 64) : IntKind.i64.wrap (v.toNat : Int) < 0 ↔ v.msb = true := by
  rw [IntKind.wrap_i64, BitVec.msb_eq_decide]
  have := v.isLt
  simp only [decide_eq_true_eq]
  omega
theorem wrap_range (n : Int) : -9223372036854775808 ≤ IntKind.i64.wrap n ∧ IntKind.i64.wrap n ≤ 9223372036854775807 := by
  rw [IntKind.wrap_i64]; omega
theorem bits_and_range (x y : Int) : -9223372036854775808 ≤ bits .and .i64 x y ∧ bits .and .i64 x y ≤ 9223372036854775807 := wrap_range _
theorem bits_xor_range (x y : Int) : -9223372036854775808 ≤ bits .xor .i64 x y ∧ bits .xor .i64 x y ≤ 9223372036854775807 := wrap_range _
theorem bits_and_neg (x y : Int) (hx : -9223372036854775808 ≤ x ∧ x ≤ 9223372036854775807) (hy : -9223372036854775808 ≤ y ∧ y ≤ 9223372036854775807) : bits .and .i64 x y < 0 ↔ (x < 0 ∧ y < 0) := by
  show IntKind.i64.wrap ((BitVec.ofInt 64 x &&& BitVec.ofInt 64 y).toNat : Int) < 0 ↔ _
  rw [wrap_neg, BitVec.msb_and, ofInt_msb x hx, ofInt_msb y hy]; simp
theorem bits_xor_neg (x y : Int) (hx : -9223372036854775808 ≤ x ∧ x ≤ 9223372036854775807) (hy : -9223372036854775808 ≤ y ∧ y ≤ 9223372036854775807) : bits .xor .i64 x y < 0 ↔ ¬ (x < 0 ↔ y < 0) := by
  show IntKind.i64.wrap ((BitVec.ofInt 64 x ^^^ BitVec.ofInt 64 y).toNat : Int) < 0 ↔ _
  rw [wrap_neg, BitVec.msb_xor, ofInt_msb x hx, ofInt_msb y hy]
  by_cases a : x < 0 <;> by_cases b : y < 0 <;> simp [a, b]
/-- The sign that tells an overflow of a sum. -/
theorem add_bits (a b : Int) (ha : -9223372036854775808 ≤ a ∧ a ≤ 9223372036854775807) (hb : -9223372036854775808 ≤ b ∧ b ≤ 9223372036854775807) :
    bits .and .i64 (bits .xor .i64 a (wrap64 (a + b))) (bits .xor .i64 b (wrap64 (a + b))) < 0 ↔ ¬ (-9223372036854775808 ≤ a + b ∧ a + b ≤ 9223372036854775807) := by
  have hs : -9223372036854775808 ≤ wrap64 (a + b) ∧ wrap64 (a + b) ≤ 9223372036854775807 := by unfold wrap64; omega
  rw [bits_and_neg _ _ (bits_xor_range _ _) (bits_xor_range _ _), bits_xor_neg _ _ ha hs, bits_xor_neg _ _ hb hs]
  unfold wrap64
  omega
theorem and3 (x : Int) : bits .and .i64 x 3 = x % 4 := by
  show IntKind.i64.wrap ((BitVec.ofInt 64 x &&& BitVec.ofInt 64 3).toNat : Int) = _
  rw [BitVec.toNat_and, BitVec.toNat_ofInt, IntKind.wrap_i64]
  have e : (BitVec.ofInt 64 3).toNat = 2 ^ 2 - 1 := by decide
  rw [e, Nat.and_two_pow_sub_one_eq_mod]
  omega
theorem and1 (x : Int) : bits .and .i64 x 1 = x % 2 := by
  show IntKind.i64.wrap ((BitVec.ofInt 64 x &&& BitVec.ofInt 64 1).toNat : Int) = _
  rw [BitVec.toNat_and, BitVec.toNat_ofInt, IntKind.wrap_i64]
  have e : (BitVec.ofInt 64 1).toNat = 2 ^ 1 - 1 := by decide
  rw [e, Nat.and_two_pow_sub_one_eq_mod]
  omega
theorem nat_and2 (n : Nat) : n &&& 2 = n % 4 / 2 * 2 := by
  have h : n &&& 2 = (n % 4) &&& 2 := by
    have e : (2 : Nat) = 3 &&& 2 := by decide
    have e4 : n % 4 = n &&& 3 := by rw [show (3 : Nat) = 2 ^ 2 - 1 by decide, Nat.and_two_pow_sub_one_eq_mod]
    rw [e4, Nat.and_assoc]
    exact congrArg (n &&& ·) e
  rw [h]
  have h4 : n % 4 < 4 := Nat.mod_lt _ (by decide)
  generalize n % 4 = m at h4
  match m, h4 with
  | 0, _ => rfl
  | 1, _ => rfl
  | 2, _ => rfl
  | 3, _ => rfl
theorem and2 (x : Int) : bits .and .i64 x 2 = x % 4 / 2 * 2 := by
  show IntKind.i64.wrap ((BitVec.ofInt 64 x &&& BitVec.ofInt 64 2).toNat : Int) = _
  rw [BitVec.toNat_and, BitVec.toNat_ofInt, IntKind.wrap_i64]
  have e : (BitVec.ofInt 64 2).toNat = 2 := by decide
  rw [e, nat_and2]
  omega
end Go.Proofs.Ytkimldeagndgjaa
