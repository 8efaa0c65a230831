/- The document's product of whole numbers that are not below 0, walked. -/
import Derived.Test.YtgddmkgmpibpgaaMulB
namespace Go.Proofs.Ytgddmkgmpibpgaa
set_option linter.unusedVariables false
set_option linter.unusedSimpArgs false
open Go.RowKit

theorem or_bit {x b : Nat} (hx : x < 2 ^ b) (hb : b < 64) : bits .or .u64 (x : Int) (IntKind.u64.wrap (2 ^ b)) = ((x + 2 ^ b : Nat) : Int) := by
  have hp : 2 ^ b < 2 ^ 64 := Nat.pow_lt_pow_right (by omega) hb
  have e : ((2 : Int) ^ b) = ((2 ^ b : Nat) : Int) := by simp
  rw [e, Go.IntWalk.u64_in _ (by omega), bits_or_u64_nat x (2 ^ b) (by omega) hp]
  have h := Nat.two_pow_add_eq_or_of_lt hx 1
  rw [Nat.mul_one] at h
  rw [Nat.or_comm, ← h, Nat.add_comm]

set_option maxHeartbeats 1000000 in
set_option maxRecDepth 100000 in
theorem refHalves_any (w : World) (x : BitVec 128) (cs : Array Value) (hcs : IsBits cs x.getLsbD) :
    Calls Try.prog 120 #[.agg cs] w fun e w' => e = .returned (.tuple #[.int .u64 ((x.toNat / 2 ^ 64 : Nat) : Int), .int .u64 ((x.toNat % 2 ^ 64 : Nat) : Int)]) ∧ Fr [] w w' := by
  have HC := Lib.hid hcs
  have hs := hcs.size
  have hx := x.isLt
  have HL := Lib.hid hx
  clear hcs hx
  go_enter Try.func120, Try.ntmps120
  go_wp2_with fail
  go_loopw [4, 5, 6] (fun s4 s5 s6 wr => ∃ i : Nat, i ≤ 64 ∧ s6 = .int .i64 i ∧ s4 = .int .u64 ((x.toNat / 2 ^ 64 % 2 ^ i : Nat) : Int) ∧ s5 = .int .u64 ((x.toNat % 2 ^ i : Nat) : Int) ∧ Fr [] w wr ∧ Blk wr w.heap.size 161 cs) (fun _ _ s6 _ => 64 - (intOf s6).toNat)
  case atStart => exact ⟨0, by omega, rfl, by simp [Nat.mod_one], by simp [Nat.mod_one], by with_reducible repeat (first | exact Fr.refl _ _ | assumption | apply Fr.drew | apply Fr.drewN | apply Fr.alloc | (apply Fr.step; assumption; (intro _ h; (first | exact h | (focus (simp_all; done))))) | (apply Fr.setIn; (first | exact List.mem_cons_self | exact List.mem_cons_of_mem _ List.mem_cons_self | exact List.mem_cons_of_mem _ (List.mem_cons_of_mem _ List.mem_cons_self) | exact List.mem_cons_of_mem _ (List.mem_cons_of_mem _ (List.mem_cons_of_mem _ List.mem_cons_self)))) | (apply Fr.setNew; (first | omega | (simp; omega)))), Blk.new _ _ _⟩
  case round =>
    obtain ⟨i, hi, rfl, rfl, rfl, F, B1⟩ := hrel
    have i0 : (0 : Int) ≤ (i : Int) := by omega
    by_cases hlt : i < 64
    · have i1 : (i : Int) < 64 := by omega
      have i2 : i < 128 := by omega
      have i3 : (i : Int) < 128 := by omega
      have i4 : i + 64 < 128 := by omega
      have i5 : (i : Int) + 64 < 128 := by omega
      have B1' : Blk wr w.heap.size 161 (bitC x.getLsbD) := (show cs = _ from HC.out) ▸ B1
      have x1 : wr.cell? ⟨w.heap.size, i, none⟩ = some (.bool (x.toNat.testBit i)) := B1'.bat i2
      have x2 : wr.cell? ⟨w.heap.size, i + 64, none⟩ = some (.bool (x.toNat.testBit (i + 64))) := B1'.bat i4
      have e2 : (x.toNat / 2 ^ 64).testBit i = x.toNat.testBit (i + 64) := by rw [Nat.testBit_div_two_pow, Nat.add_comm]
      have hlo := Lib.hid (mod_succ x.toNat i)
      have hhi := Lib.hid (mod_succ (x.toNat / 2 ^ 64) i)
      have hp : 2 ^ i < 2 ^ 64 := Nat.pow_lt_pow_right (by omega) hlt
      have olo := Lib.hid (or_bit (x := x.toNat % 2 ^ i) (b := i) (Nat.mod_lt _ (Nat.two_pow_pos i)) hlt)
      have ohi := Lib.hid (or_bit (x := x.toNat / 2 ^ 64 % 2 ^ i) (b := i) (Nat.mod_lt _ (Nat.two_pow_pos i)) hlt)
      have HE := Lib.hid e2
      clear e2 hp B1'
      generalize hb1 : x.toNat.testBit i = b1 at x1
      generalize hb2 : x.toNat.testBit (i + 64) = b2 at x2
      have HB1 := Lib.hid hb1
      have HB2 := Lib.hid hb2
      clear hb1 hb2
      obtain ⟨lo, hlo'⟩ : ∃ lo, x.toNat % 2 ^ i = lo := ⟨_, rfl⟩
      obtain ⟨hh, hhi'⟩ : ∃ hh, x.toNat / 2 ^ 64 % 2 ^ i = hh := ⟨_, rfl⟩
      rw [hlo', hhi']
      have HLO := Lib.hid hlo'
      have HHI := Lib.hid hhi'
      clear hlo' hhi'
      cases b1 <;> cases b2
      all_goals
        go_wp2_with fail
        go_roundw
        case rel =>
          refine ⟨i + 1, by omega, by simp, ?_, ?_, F, B1⟩
          · first
              | (rw [hhi.out, HE.out, HB2.out, HHI.out]; simp; done)
              | (have h1 := ohi.out; rw [HHI.out] at h1; rw [h1, hhi.out, HE.out, HB2.out, HHI.out]; simp; done)
          · first
              | (rw [hlo.out, HB1.out, HLO.out]; simp; done)
              | (have h1 := olo.out; rw [HLO.out] at h1; rw [h1, hlo.out, HB1.out, HLO.out]; simp; done)
        case measure => simp [intOf]; omega
    · obtain rfl : i = 64 := by omega
      have hh : x.toNat / 2 ^ 64 % 2 ^ 64 = x.toNat / 2 ^ 64 := Nat.mod_eq_of_lt (by have := HL.out; omega)
      rw [hh]
      obtain ⟨p, hp⟩ : ∃ p, x.toNat / 2 ^ 64 = p := ⟨_, rfl⟩
      obtain ⟨q, hq⟩ : ∃ q, x.toNat % 2 ^ 64 = q := ⟨_, rfl⟩
      rw [hp, hq]
      have HPQ := Lib.hid (And.intro hp hq)
      clear hp hq hh
      go_wp2_with fail
      go_ret2
      refine ⟨?_, F⟩
      rw [HPQ.out.1, HPQ.out.2]
      rfl

theorem refSize_any (w : World) (a : Nat) (ha : a < 2 ^ 63) :
    Calls Try.prog 122 #[.int .i64 (a : Int)] w fun e w' => e = .returned (.int .u64 (a : Int)) ∧ w = w' := by
  have a0 : ¬ (a : Int) < 0 := by omega
  have a1 : (0 : Int) ≤ (a : Int) := by omega
  have a2 : (a : Int) ≤ 9223372036854775807 := by omega
  clear ha
  go_enter Try.func122, Try.ntmps122
  go_wp2_with fail
  go_ret
  exact ⟨rfl, rfl⟩

/-- A product of sizes, as a whole number. -/
def mulN (n : Nat) : Int × Bool := if n < 2 ^ 63 then ((n : Int), true) else (0, false)

theorem refSigned_any (w : World) (n : Nat) (hn : n < 2 ^ 64) :
    Calls Try.prog 123 #[.int .u64 (n : Int), .bool false] w fun e w' => e = .returned (.tuple #[.int .i64 (mulN n).1, .bool (mulN n).2]) ∧ w = w' := by
  have a1 : (0 : Int) ≤ (n : Int) := by omega
  by_cases c : n < 2 ^ 63
  · have h : mulN n = ((n : Int), true) := by unfold mulN; rw [if_pos c]
    rw [h]
    have a2 : ¬ (9223372036854775808 : Int) ≤ (n : Int) := by omega
    have a3 : (n : Int) ≤ 9223372036854775807 := by omega
    clear h c hn
    go_enter Try.func123, Try.ntmps123
    go_wp2_with fail
    go_ret2
    exact ⟨rfl, rfl⟩
  · have h : mulN n = (0, false) := by unfold mulN; rw [if_neg c]
    rw [h]
    have a2 : (9223372036854775808 : Int) ≤ (n : Int) := by omega
    clear h c hn
    go_enter Try.func123, Try.ntmps123
    go_wp2_with fail
    go_ret2
    exact ⟨rfl, rfl⟩

theorem refMul_any (w : World) (a b : Nat) (ha : a < 2 ^ 63) (hb : b < 2 ^ 63) :
    Calls Try.prog 115 #[.int .i64 (a : Int), .int .i64 (b : Int)] w fun e w' => e = .returned (.tuple #[.int .i64 (mulN (a * b)).1, .bool (mulN (a * b)).2]) ∧ Fr [] w w' := by
  have HA := Lib.hid ha
  have HB := Lib.hid hb
  have a0 : ¬ (a : Int) < 0 := by omega
  have b0 : ¬ (b : Int) < 0 := by omega
  have hlt : a * b < 2 ^ 126 := by
    have h1 : a * b ≤ 2 ^ 63 * b := Nat.mul_le_mul_right _ (by omega)
    have h2 : 2 ^ 63 * b < 2 ^ 63 * 2 ^ 63 := Nat.mul_lt_mul_of_pos_left hb (by decide)
    have h3 : (2 : Nat) ^ 63 * 2 ^ 63 = 2 ^ 126 := by decide
    omega
  have hn : (BitVec.ofNat 128 (a * b)).toNat = a * b := by rw [BitVec.toNat_ofNat]; exact Nat.mod_eq_of_lt (by omega)
  have HN := Lib.hid hn
  clear ha hb hn
  generalize hm : a * b = m at HN hlt ⊢
  have HM := Lib.hid hm
  clear hm
  go_enter Try.func115, Try.ntmps115
  go_wp2_with fail
  refine (refSize_any _ a HA.out).mono ?_
  rintro e w1 ⟨rfl, rfl⟩
  go_wp2_with fail
  refine (refSize_any _ b HB.out).mono ?_
  rintro e w1 ⟨rfl, rfl⟩
  go_wp2_with fail
  refine (refMulBits_any _ a b (by have := HA.out; omega) (by have := HB.out; omega)).mono ?_
  rintro e w1 ⟨⟨cs, hcs, rfl⟩, F1⟩
  rw [HM.out] at hcs
  have HCS := Lib.hid hcs
  clear hcs
  go_wp2_with fail
  refine (refHalves_any _ _ cs HCS.out).mono ?_
  rw [HN.out]
  rintro e w2 ⟨rfl, F2⟩
  by_cases hz : m / 2 ^ 64 = 0
  · have h1 : m % 2 ^ 64 = m := Nat.mod_eq_of_lt (by omega)
    have hm64 : m < 2 ^ 64 := by omega
    rw [hz, h1]
    have HS := Lib.hid (fun w => refSigned_any w m hm64)
    clear hz h1 hm64 hlt
    go_wp2_with fail
    refine (HS.out _).mono ?_
    rintro e w3 ⟨rfl, rfl⟩
    go_wp2_with fail
    go_ret2
    exact ⟨rfl, F1.trans F2⟩
  · have h0 : ¬ m < 2 ^ 63 := by omega
    have h1 : mulN m = (0, false) := by unfold mulN; rw [if_neg h0]
    have H1 := Lib.hid h1
    generalize hq : m / 2 ^ 64 = q at hz
    generalize m % 2 ^ 64 = p
    have q0 : (0 : Int) < (q : Int) := by omega
    clear hz hq h1 hlt h0
    go_wp2_with fail
    go_ret2
    exact ⟨by rw [H1.out]; rfl, F1.trans F2⟩
end Go.Proofs.Ytgddmkgmpibpgaa
