/- The program's product of whole numbers that are not below 0, walked. -/
import Derived.Test.YtgddmkgmpibpgaaMulC
import Derived.Test.YtgddmkgmpibpgaaBits
import Derived.Outline
namespace Go.Proofs.Ytgddmkgmpibpgaa
set_option linter.unusedVariables false
set_option linter.unusedSimpArgs false
open Go.RowKit

theorem sign_any (w : World) (a : Nat) (ha : a < 2 ^ 63) :
    Calls Try.prog 119 #[.int .i64 (a : Int)] w fun e w' => e = .returned (.int .i64 0) ∧ w = w' := by
  have a1 : (0 : Int) ≤ (a : Int) := by omega
  have a2 : (a : Int) ≤ 9223372036854775807 := by omega
  go_enter Try.func119, Try.ntmps119
  go_wp2_with fail
  go_ret
  exact ⟨ret_int (by omega), rfl⟩

theorem xor_zero (a : Nat) (ha : a < 2 ^ 63) : bits .xor .i64 (a : Int) 0 = a := by
  show IntKind.i64.wrap ((BitVec.ofInt 64 (a : Int) ^^^ BitVec.ofInt 64 0).toNat : Int) = _
  rw [show BitVec.ofInt 64 0 = 0#64 by decide, BitVec.xor_zero, BitVec.ofInt_natCast, BitVec.toNat_ofNat, Nat.mod_eq_of_lt (by omega), IntKind.wrap_i64]
  omega

theorem size_any (w : World) (a : Nat) (ha : a < 2 ^ 63) :
    Calls Try.prog 118 #[.int .i64 (a : Int)] w fun e w' => e = .returned (.int .u64 (a : Int)) ∧ w = w' := by
  have a1 : (0 : Int) ≤ (a : Int) := by omega
  have a2 : (a : Int) ≤ 9223372036854775807 := by omega
  have hx := xor_zero a ha
  have HA := Lib.hid ha
  clear ha
  go_enter Try.func118, Try.ntmps118
  go_wp2_with fail
  refine (sign_any _ a HA.out).mono ?_
  rintro e w1 ⟨rfl, rfl⟩
  go_wp2_with fail
  refine (sign_any _ a HA.out).mono ?_
  rintro e w1 ⟨rfl, rfl⟩
  go_wp2_with fail
  go_ret
  exact ⟨rfl, rfl⟩

theorem and_low (x : Nat) (hx : x < 2 ^ 64) : bits .and .u64 (x : Int) 4294967295 = ((x % 4294967296 : Nat) : Int) := by
  rw [show (4294967295 : Int) = ((4294967295 : Nat) : Int) from rfl, bits_and_u64_nat x 4294967295 (by omega) (by omega), show (4294967295 : Nat) = 2 ^ 32 - 1 from rfl, Nat.and_two_pow_sub_one_eq_mod]
theorem mul_small {x y : Nat} (hx : x < 4294967296) (hy : y < 4294967296) : x * y ≤ 18446744065119617025 :=
  Nat.le_trans (Nat.mul_le_mul (Nat.le_of_lt_succ hx) (Nat.le_of_lt_succ hy)) (by decide)
theorem u64_nat (x : Nat) (hx : x < 18446744073709551616) : IntKind.u64.wrap (x : Int) = (x : Int) := Go.IntWalk.u64_in _ (by omega)
theorem wide_num (a1 a0 b1 b0 : Nat) (h1 : a1 < 4294967296) (h2 : a0 < 4294967296) (h3 : b1 < 4294967296) (h4 : b0 < 4294967296) :
    a0 * b0 < 18446744073709551616 ∧ a1 * b0 + a0 * b0 / 4294967296 < 18446744073709551616 ∧ a0 * b1 + (a1 * b0 + a0 * b0 / 4294967296) % 4294967296 < 18446744073709551616 ∧ a1 * b0 < 18446744073709551616 ∧ a0 * b1 < 18446744073709551616 ∧ a1 * b1 < 18446744073709551616 ∧
    a1 * b1 + (a1 * b0 + a0 * b0 / 4294967296) / 4294967296 < 18446744073709551616 ∧
    a1 * b1 + (a1 * b0 + a0 * b0 / 4294967296) / 4294967296 + (a0 * b1 + (a1 * b0 + a0 * b0 / 4294967296) % 4294967296) / 4294967296 < 18446744073709551616 ∧
    (a1 * 4294967296 + a0) * (b1 * 4294967296 + b0) / 18446744073709551616 = a1 * b1 + (a1 * b0 + a0 * b0 / 4294967296) / 4294967296 + (a0 * b1 + (a1 * b0 + a0 * b0 / 4294967296) % 4294967296) / 4294967296 ∧
    (a1 * 4294967296 + a0) * (b1 * 4294967296 + b0) % 18446744073709551616 = (a0 * b1 + (a1 * b0 + a0 * b0 / 4294967296) % 4294967296) % 4294967296 * 4294967296 + a0 * b0 % 4294967296 := by
  have e : (a1 * 4294967296 + a0) * (b1 * 4294967296 + b0) = a1 * b1 * 18446744073709551616 + (a1 * b0 + a0 * b1) * 4294967296 + a0 * b0 := by
    rw [Nat.add_mul, Nat.mul_add, Nat.mul_add, Nat.mul_mul_mul_comm, show (4294967296 * 4294967296 : Nat) = 18446744073709551616 from rfl, Nat.mul_right_comm a1 4294967296 b0, ← Nat.mul_assoc a0 b1, Nat.add_mul]
    omega
  rw [e]
  have p00 := mul_small h2 h4
  have p10 := mul_small h1 h4
  have p01 := mul_small h2 h3
  have p11 := mul_small h1 h3
  generalize a0 * b0 = p at *
  generalize a1 * b0 = q at *
  generalize a0 * b1 = r at *
  generalize a1 * b1 = t at *
  clear e
  refine ⟨?_, ?_, ?_, ?_, ?_, ?_, ?_, ?_, ?_, ?_⟩ <;> omega

def loI (x : Int) : Int := bits .and .u64 x 4294967295
/-- What the program's wide product holds. -/
def wLeast (a b : Int) : Int := IntKind.u64.wrap (loI a * loI b)
def wMid (a b : Int) : Int := IntKind.u64.wrap (IntKind.u64.wrap (a / 4294967296 * loI b) + wLeast a b / 4294967296)
def wOther (a b : Int) : Int := IntKind.u64.wrap (IntKind.u64.wrap (loI a * (b / 4294967296)) + loI (wMid a b))
def wHi (a b : Int) : Int := IntKind.u64.wrap (IntKind.u64.wrap (IntKind.u64.wrap (a / 4294967296 * (b / 4294967296)) + wMid a b / 4294967296) + wOther a b / 4294967296)
def wLo (a b : Int) : Int := bits .or .u64 (IntKind.u64.wrap (wOther a b * 4294967296)) (loI (wLeast a b))
theorem wide_eq (a b : Nat) (ha : a < 2 ^ 64) (hb : b < 2 ^ 64) : wHi a b = ((a * b / 2 ^ 64 : Nat) : Int) ∧ wLo a b = ((a * b % 2 ^ 64 : Nat) : Int) := by
  obtain ⟨a1, e1⟩ : ∃ x, a / 4294967296 = x := ⟨_, rfl⟩
  obtain ⟨a0, e2⟩ : ∃ x, a % 4294967296 = x := ⟨_, rfl⟩
  obtain ⟨b1, e3⟩ : ∃ x, b / 4294967296 = x := ⟨_, rfl⟩
  obtain ⟨b0, e4⟩ : ∃ x, b % 4294967296 = x := ⟨_, rfl⟩
  have i1 : (a : Int) / 4294967296 = ((a1 : Nat) : Int) := by omega
  have i3 : (b : Int) / 4294967296 = ((b1 : Nat) : Int) := by omega
  have i2 : loI a = ((a0 : Nat) : Int) := by rw [← e2]; exact and_low a ha
  have i4 : loI b = ((b0 : Nat) : Int) := by rw [← e4]; exact and_low b hb
  have ea : a = a1 * 4294967296 + a0 := by omega
  have eb : b = b1 * 4294967296 + b0 := by omega
  obtain ⟨n1, n2, n3, n4, n5, n6, n7, n8, n9, n10⟩ := wide_num a1 a0 b1 b0 (by omega) (by omega) (by omega) (by omega)
  rw [← ea, ← eb] at n9 n10
  have l : wLeast a b = ((a0 * b0 : Nat) : Int) := by
    unfold wLeast
    rw [i2, i4, ← Int.natCast_mul, u64_nat _ n1]
  have m : wMid a b = ((a1 * b0 + a0 * b0 / 4294967296 : Nat) : Int) := by
    unfold wMid
    rw [i1, i4, l, ← Int.natCast_mul, u64_nat _ n4, show ((a0 * b0 : Nat) : Int) / 4294967296 = ((a0 * b0 / 4294967296 : Nat) : Int) by omega, ← Int.natCast_add, u64_nat _ n2]
  have lm : loI (wMid a b) = (((a1 * b0 + a0 * b0 / 4294967296) % 4294967296 : Nat) : Int) := by rw [m]; exact and_low _ (by omega)
  have o : wOther a b = ((a0 * b1 + (a1 * b0 + a0 * b0 / 4294967296) % 4294967296 : Nat) : Int) := by
    unfold wOther
    rw [lm, i2, i3, ← Int.natCast_mul, u64_nat _ n5, ← Int.natCast_add, u64_nat _ n3]
  constructor
  · unfold wHi
    rw [i1, i3, m, o, ← Int.natCast_mul, u64_nat _ n6, show ((a1 * b0 + a0 * b0 / 4294967296 : Nat) : Int) / 4294967296 = (((a1 * b0 + a0 * b0 / 4294967296) / 4294967296 : Nat) : Int) by omega, ← Int.natCast_add, u64_nat _ n7,
      show ((a0 * b1 + (a1 * b0 + a0 * b0 / 4294967296) % 4294967296 : Nat) : Int) / 4294967296 = (((a0 * b1 + (a1 * b0 + a0 * b0 / 4294967296) % 4294967296) / 4294967296 : Nat) : Int) by omega, ← Int.natCast_add, u64_nat _ n8, ← n9]
  · unfold wLo
    rw [o, l]
    generalize hot : a0 * b1 + (a1 * b0 + a0 * b0 / 4294967296) % 4294967296 = ot at n3 n10 ⊢
    generalize hle : a0 * b0 = le at n1 n10 ⊢
    have e5 : IntKind.u64.wrap ((ot : Int) * 4294967296) = ((ot % 4294967296 * 4294967296 : Nat) : Int) := by rw [IntKind.wrap_u64]; omega
    have e6 : loI (le : Int) = ((le % 4294967296 : Nat) : Int) := and_low _ (by omega)
    rw [e5, e6, bits_or_u64_nat _ _ (by omega) (by omega)]
    have h := Nat.two_pow_add_eq_or_of_lt (i := 32) (b := le % 4294967296) (Nat.mod_lt _ (by decide)) (ot % 4294967296)
    rw [show (2 : Nat) ^ 32 = 4294967296 from rfl] at h
    rw [Nat.mul_comm (ot % 4294967296), ← h, Nat.mul_comm, ← n10]

theorem wideMul_any (w : World) (a b : Nat) (ha : a < 2 ^ 64) (hb : b < 2 ^ 64) :
    Calls Try.prog 117 #[.int .u64 (a : Int), .int .u64 (b : Int)] w fun e w' => e = .returned (.agg #[.int .u64 ((a * b / 2 ^ 64 : Nat) : Int), .int .u64 ((a * b % 2 ^ 64 : Nat) : Int)]) ∧ Fr [] w w' := by
  have a1 : (0 : Int) ≤ (a : Int) := by omega
  have a2 : (a : Int) < 18446744073709551616 := by omega
  have b1 : (0 : Int) ≤ (b : Int) := by omega
  have b2 : (b : Int) < 18446744073709551616 := by omega
  have HE := Lib.hid (wide_eq a b ha hb)
  clear ha hb
  go_enter Try.func117, Try.ntmps117
  go_wp2_with fail
  refine bodyPost_ret (v := .agg #[.int .u64 (wHi a b), .int .u64 (wLo a b)]) (by simp [results, Try.results117, go_sem, wHi, wLo, wOther, wMid, wLeast, loI]) rfl ⟨?_, by with_reducible repeat (first | exact Fr.refl _ _ | assumption | apply Fr.drew | apply Fr.drewN | apply Fr.alloc | (apply Fr.step; assumption; (intro _ h; (first | exact h | (focus (simp_all; done))))) | (apply Fr.setIn; (first | exact List.mem_cons_self | exact List.mem_cons_of_mem _ List.mem_cons_self | exact List.mem_cons_of_mem _ (List.mem_cons_of_mem _ List.mem_cons_self) | exact List.mem_cons_of_mem _ (List.mem_cons_of_mem _ (List.mem_cons_of_mem _ List.mem_cons_self)))) | (apply Fr.setNew; (first | omega | (simp; omega))))⟩
  rw [HE.out.1, HE.out.2]

/-- fix.Mul of what is not below 0. -/
theorem mul_any (w : World) (a b : Nat) (ha : a < 2 ^ 63) (hb : b < 2 ^ 63) :
    Calls Try.prog 114 #[.int .i64 (a : Int), .int .i64 (b : Int)] w fun e w' => e = .returned (.tuple #[.int .i64 (mulN (a * b)).1, .bool (mulN (a * b)).2]) ∧ Fr [] w w' := by
  have HA := Lib.hid ha
  have HB := Lib.hid hb
  obtain ⟨x, hx⟩ : ∃ x : Nat, bits .xor .i64 (a : Int) (b : Int) = (x : Int) ∧ x < 2 ^ 63 := by
    have h1 := bits_xor_neg (a : Int) (b : Int) (by omega) (by omega)
    have h2 := bits_xor_range (a : Int) (b : Int)
    refine ⟨(bits .xor .i64 (a : Int) (b : Int)).toNat, ?_, ?_⟩
    · have : ¬ bits .xor .i64 (a : Int) (b : Int) < 0 := by rw [h1]; omega
      omega
    · omega
  have hxe := hx.1
  have HX := Lib.hid hx.2
  generalize hm : a * b = m
  have HM := Lib.hid hm
  clear ha hb hx hm
  go_enter Try.func114, Try.ntmps114
  go_wp2_with fail
  refine (size_any _ a HA.out).mono ?_
  rintro e w1 ⟨rfl, rfl⟩
  go_wp2_with fail
  refine (size_any _ b HB.out).mono ?_
  rintro e w1 ⟨rfl, rfl⟩
  go_wp2_with fail
  refine (wideMul_any _ a b (by have := HA.out; omega) (by have := HB.out; omega)).mono ?_
  rw [HM.out]
  rintro e w1 ⟨rfl, F1⟩
  obtain ⟨p, hp⟩ : ∃ p, m / 2 ^ 64 = p := ⟨_, rfl⟩
  obtain ⟨q, hq⟩ : ∃ q, m % 2 ^ 64 = q := ⟨_, rfl⟩
  rw [hp, hq]
  have hq64 : q < 2 ^ 64 := by omega
  have HPQ := Lib.hid (And.intro hp hq)
  clear hp hq
  go_wp2_with fail
  refine (sign_any _ x HX.out).mono ?_
  rintro e w2 ⟨rfl, rfl⟩
  have q0 : (0 : Int) ≤ (q : Int) := by omega
  by_cases hz : p = 0
  · subst hz
    have hmq : m = q := by have := HPQ.out; omega
    by_cases hs : q < 2 ^ 63
    · have q1 : ¬ (9223372036854775807 : Int) < (q : Int) := by omega
      have q2 : (q : Int) ≤ 9223372036854775807 := by omega
      have xz := xor_zero q hs
      have hr : mulN m = ((q : Int), true) := by unfold mulN; rw [hmq, if_pos hs]
      have HR := Lib.hid hr
      clear hr hs hmq hq64
      go_wp2_with fail
      go_ret2
      exact ⟨by rw [HR.out]; rfl, by with_reducible repeat (first | exact Fr.refl _ _ | assumption | apply Fr.drew | apply Fr.drewN | apply Fr.alloc | (apply Fr.step; assumption; (intro _ h; (first | exact h | (focus (simp_all; done))))) | (apply Fr.setIn; (first | exact List.mem_cons_self | exact List.mem_cons_of_mem _ List.mem_cons_self | exact List.mem_cons_of_mem _ (List.mem_cons_of_mem _ List.mem_cons_self) | exact List.mem_cons_of_mem _ (List.mem_cons_of_mem _ (List.mem_cons_of_mem _ List.mem_cons_self)))) | (apply Fr.setNew; (first | omega | (simp; omega))))⟩
    · have q1 : (9223372036854775807 : Int) < (q : Int) := by omega
      have hr : mulN m = (0, false) := by unfold mulN; rw [hmq, if_neg hs]
      have HR := Lib.hid hr
      clear hr hs hmq hq64
      go_wp2_with fail
      go_ret2
      exact ⟨by rw [HR.out]; rfl, by with_reducible repeat (first | exact Fr.refl _ _ | assumption | apply Fr.drew | apply Fr.drewN | apply Fr.alloc | (apply Fr.step; assumption; (intro _ h; (first | exact h | (focus (simp_all; done))))) | (apply Fr.setIn; (first | exact List.mem_cons_self | exact List.mem_cons_of_mem _ List.mem_cons_self | exact List.mem_cons_of_mem _ (List.mem_cons_of_mem _ List.mem_cons_self) | exact List.mem_cons_of_mem _ (List.mem_cons_of_mem _ (List.mem_cons_of_mem _ List.mem_cons_self)))) | (apply Fr.setNew; (first | omega | (simp; omega))))⟩
  · have hp1 : ((p : Int) == 0) = false := by simp; omega
    have hp2 : ((p : Int) != 0) = true := by simp; omega
    have hs : ¬ m < 2 ^ 63 := by have := HPQ.out; omega
    have hr : mulN m = (0, false) := by unfold mulN; rw [if_neg hs]
    have HR := Lib.hid hr
    clear hr hs hz
    go_wp2_with fail
    go_ret2
    exact ⟨by rw [HR.out]; rfl, by with_reducible repeat (first | exact Fr.refl _ _ | assumption | apply Fr.drew | apply Fr.drewN | apply Fr.alloc | (apply Fr.step; assumption; (intro _ h; (first | exact h | (focus (simp_all; done))))) | (apply Fr.setIn; (first | exact List.mem_cons_self | exact List.mem_cons_of_mem _ List.mem_cons_self | exact List.mem_cons_of_mem _ (List.mem_cons_of_mem _ List.mem_cons_self) | exact List.mem_cons_of_mem _ (List.mem_cons_of_mem _ (List.mem_cons_of_mem _ List.mem_cons_self)))) | (apply Fr.setNew; (first | omega | (simp; omega))))⟩
end Go.Proofs.Ytgddmkgmpibpgaa
