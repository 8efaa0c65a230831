/- The ladder: the least free queue. -/
import Derived.Test.YtkimldeagndgjaaLadB
import Derived.Laws.Bits64b
namespace Go.Proofs.Ytkimldeagndgjaa
set_option linter.unusedVariables false
set_option linter.unusedSimpArgs false
open Go.RowKit

def usedB (u : Nat → Nat) (q : Nat) : Bool := (u (q / 64)).testBit (q % 64)
def setU (u : Nat → Nat) (q : Nat) : Nat → Nat := fun i => if i = q / 64 then u i ||| 2 ^ (q % 64) else u i

theorem bit_at {x b : Nat} (hx : x < 2 ^ 64) : (bits .and .u64 ((x : Int) / 2 ^ b) 1 == 1) = x.testBit b := by
  have e : ((x : Int) / 2 ^ b) = ((x / 2 ^ b : Nat) : Int) := by simp
  have hl : x / 2 ^ b < 18446744073709551616 := Nat.lt_of_le_of_lt (Nat.div_le_self _ _) hx
  rw [e, show (1 : Int) = ((1 : Nat) : Int) from rfl, bits_and_u64_nat _ 1 hl (by omega), Nat.and_one_is_mod, Nat.testBit_eq_decide_div_mod_eq]
  by_cases c : x / 2 ^ b % 2 = 1
  · simp [c]
  · simp [c]; omega
theorem bit_or {x b : Nat} (hx : x < 2 ^ 64) (hb : b < 64) : bits .or .u64 (x : Int) (IntKind.u64.wrap (2 ^ b)) = ((x ||| 2 ^ b : Nat) : Int) := by
  have hp : 2 ^ b < 2 ^ 64 := Nat.pow_lt_pow_right (by omega) hb
  have e : ((2 : Int) ^ b) = ((2 ^ b : Nat) : Int) := by simp
  rw [e]
  generalize (2 : Nat) ^ b = y at hp ⊢
  rw [Go.IntWalk.u64_in _ (by omega)]
  exact bits_or_u64_nat x y hx hp
theorem all_ones {x : Nat} (h : x < 2 ^ 64) (hb : ∀ b, b < 64 → x.testBit b = true) : x = 18446744073709551615 := by
  apply Nat.eq_of_testBit_eq
  intro b
  by_cases c : b < 64
  · rw [hb b c, show (18446744073709551615 : Nat) = 2 ^ 64 - 1 from rfl, Nat.testBit_two_pow_sub_one]
    simp [c]
  · rw [Nat.testBit_lt_two_pow (Nat.lt_of_lt_of_le h (Nat.pow_le_pow_right (by omega) (by omega))), Nat.testBit_lt_two_pow (Nat.lt_of_lt_of_le (by decide : 18446744073709551615 < 2 ^ 64) (Nat.pow_le_pow_right (by omega) (by omega)))]
theorem ones_bit {b : Nat} (h : b < 64) : (18446744073709551615 : Nat).testBit b = true := by
  rw [show (18446744073709551615 : Nat) = 2 ^ 64 - 1 from rfl, Nat.testBit_two_pow_sub_one]
  simp [h]

set_option maxRecDepth 100000 in
theorem queue_any (w : World) (lp : Nat) (side most : Int) (v : Value) (u : Nat → Nat) (h : BlkL w lp side most v u) (hu : ∀ i, i < 4 → u i < 2 ^ 64) (q : Nat) (hq : q < 256) (hfree : usedB u q = false) (hleast : ∀ p, p < q → usedB u p = true) :
    Calls Try.prog 133 #[.pointer (some ⟨lp, 0, none⟩)] w fun e w' => e = .returned (.int .i64 q) ∧ Fr [lp] w w' ∧ BlkL w' lp side most v (setU u q) := by
  have HU := Lib.hid hu
  have HL := Lib.hid hleast
  have HF := Lib.hid hfree
  have HB := Lib.hid h
  have hcell : ∀ i, i < 4 → w.cell? ⟨lp, 3 + i, none⟩ = some (.int .u64 (u i : Int)) := by
    intro i hi
    rcases (show i = 0 ∨ i = 1 ∨ i = 2 ∨ i = 3 by omega) with rfl | rfl | rfl | rfl
    · exact (h.cell 3).trans rfl
    · exact (h.cell 4).trans rfl
    · exact (h.cell 5).trans rfl
    · exact (h.cell 6).trans rfl
  have HC := Lib.hid hcell
  have hf := h.frozen
  clear hcell hu hleast hfree h
  go_enter Try.func133, Try.ntmps133
  go_wp2_with fail
  go_loopw [6] (fun s6 wr => wr = w ∧ ∃ i : Nat, i ≤ q / 64 ∧ s6 = .int .i64 i) (fun s6 _ => 4 - (intOf s6).toNat)
  case atStart => exact ⟨rfl, 0, by omega, rfl⟩
  case round =>
    obtain ⟨rfl, i, hi, rfl⟩ := hrel
    have i4 : i < 4 := by omega
    have i1 : (i : Int) < 4 := by omega
    have i0 : (0 : Int) ≤ (i : Int) := by omega
    have x := HC.out i i4
    have ux := HU.out i i4
    by_cases hall : u i = 18446744073709551615
    · have hne : (((u i : Nat) : Int) == 18446744073709551615) = true := by simp [hall]
      go_wp2_with fail
      go_roundw
      case rel =>
        refine ⟨trivial, i + 1, ?_, by simp⟩
        have : i ≠ q / 64 := by
          rintro rfl
          have := HF.out
          unfold usedB at this
          rw [hall, ones_bit (Nat.mod_lt _ (by omega))] at this
          cases this
        omega
      case measure => simp [intOf]; omega
    · have hne : (((u i : Nat) : Int) == 18446744073709551615) = false := by simp; omega
      have hiq : i = q / 64 := by
        by_cases c : i = q / 64
        · exact c
        · refine absurd (all_ones ux fun b hb => ?_) hall
          have := HL.out (i * 64 + b) (by omega)
          unfold usedB at this
          rwa [show (i * 64 + b) / 64 = i by omega, show (i * 64 + b) % 64 = b by omega] at this
      have hbq : (u i).testBit (q % 64) = false := by rw [hiq]; exact HF.out
      have hbl : ∀ b, b < q % 64 → (u i).testBit b = true := fun b hb => by
        have := HL.out (i * 64 + b) (by omega)
        unfold usedB at this
        rwa [show (i * 64 + b) / 64 = i by omega, show (i * 64 + b) % 64 = b by omega] at this
      have HBL := Lib.hid hbl
      have HBQ := Lib.hid hbq
      have HIQ := Lib.hid hiq
      clear hbl hbq hiq hne
      have hm : q % 64 < 64 := Nat.mod_lt _ (by omega)
      generalize hr : q % 64 = r at hm
      have HR := Lib.hid hr
      clear hr
      go_wp2_with fail
      go_loopw [5] (fun s5 wq => wq = wr ∧ ∃ b : Nat, b ≤ r ∧ s5 = .int .i64 b) (fun s5 _ => r - (intOf s5).toNat)
      case atStart => exact ⟨rfl, 0, by omega, rfl⟩
      case round =>
        obtain ⟨rfl, b, hb, rfl⟩ := hrel
        have b1 : (b : Int) < 64 := by omega
        have b0 : (0 : Int) ≤ (b : Int) := by omega
        rcases (show b < r ∨ b = r by omega) with hbr | rfl
        · have hbit : (bits .and .u64 ((u i : Int) / 2 ^ b) 1 == 1) = true := by rw [bit_at ux]; exact HBL.out b (by rw [HR.out]; exact hbr)
          go_wp2_with fail
          go_roundw
          case rel => exact ⟨trivial, b + 1, by omega, by simp⟩
          case measure => simp [intOf]; omega
        · have hbit : (bits .and .u64 ((u i : Int) / 2 ^ b) 1 == 1) = false := by rw [bit_at ux, ← HR.out]; exact HBQ.out
          go_wp2_with fail
          refine u_region (S := fun w' => w'.cell? ⟨lp, 3 + i, none⟩ = some (.int .u64 (u i : Int))) 12 (by kernel_rfl) (by kernel_rfl) (by kernel_rfl) (by kernel_rfl) (by kernel_rfl) x ?_
          (refine u_take 0 (v := ?_) rfl rfl (by kernel_rfl) (by kernel_rfl) (fun _ _ _ h => h) (Or.inl ⟨by rfl, ?_⟩) ?_; rotate_left; (focus (intro wz hSw; (try dsimp only at hSw); go_simp; (try with_reducible rfl))); (try simp only [Act.put, List.getElem_toArray, List.getElem_cons_succ, List.getElem_cons_zero, List.setIfInBounds_toArray, List.set_cons_zero, List.set_cons_succ]))
          (refine u_take 1 (v := ?_) rfl rfl (by kernel_rfl) (by kernel_rfl) (fun _ _ _ h => h) (Or.inl ⟨by rfl, ?_⟩) ?_; rotate_left; (focus (intro wz hSw; (try dsimp only at hSw); go_simp; (try with_reducible rfl))); (try simp only [Act.put, List.getElem_toArray, List.getElem_cons_succ, List.getElem_cons_zero, List.setIfInBounds_toArray, List.set_cons_zero, List.set_cons_succ]))
          (refine u_take 2 (v := ?_) rfl rfl (by kernel_rfl) (by kernel_rfl) (fun _ _ _ h => h) (Or.inl ⟨by rfl, ?_⟩) ?_; rotate_left; (focus (intro wz hSw; (try dsimp only at hSw); go_simp; (try with_reducible rfl))); (try simp only [Act.put, List.getElem_toArray, List.getElem_cons_succ, List.getElem_cons_zero, List.setIfInBounds_toArray, List.set_cons_zero, List.set_cons_succ]))
          (refine u_take 3 (v := ?_) rfl rfl (by kernel_rfl) (by kernel_rfl) (fun _ _ _ h => h) (Or.inl ⟨by rfl, ?_⟩) ?_; rotate_left; (focus (intro wz hSw; (try dsimp only at hSw); go_simp; (try with_reducible rfl))); (try simp only [Act.put, List.getElem_toArray, List.getElem_cons_succ, List.getElem_cons_zero, List.setIfInBounds_toArray, List.set_cons_zero, List.set_cons_succ]))
          (refine u_take 4 (v := ?_) rfl rfl (by kernel_rfl) (by kernel_rfl) (fun _ _ _ h => h) (Or.inl ⟨by rfl, ?_⟩) ?_; rotate_left; (focus (intro wz hSw; (try dsimp only at hSw); go_simp; (try with_reducible rfl))); (try simp only [Act.put, List.getElem_toArray, List.getElem_cons_succ, List.getElem_cons_zero, List.setIfInBounds_toArray, List.set_cons_zero, List.set_cons_succ]))
          (refine u_take 5 (v := ?_) rfl rfl (by kernel_rfl) (by kernel_rfl) (fun _ _ _ h => h) (Or.inl ⟨by rfl, ?_⟩) ?_; rotate_left; (focus (intro wz hSw; (try dsimp only at hSw); go_simp; (try with_reducible rfl))); (try simp only [Act.put, List.getElem_toArray, List.getElem_cons_succ, List.getElem_cons_zero, List.setIfInBounds_toArray, List.set_cons_zero, List.set_cons_succ]))
          (refine u_take 6 (v := ?_) rfl rfl (by kernel_rfl) (by kernel_rfl) (fun _ _ _ h => h) (Or.inl ⟨by rfl, ?_⟩) ?_; rotate_left; (focus (intro wz hSw; (try dsimp only at hSw); go_simp; (try with_reducible rfl))); (try simp only [Act.put, List.getElem_toArray, List.getElem_cons_succ, List.getElem_cons_zero, List.setIfInBounds_toArray, List.set_cons_zero, List.set_cons_succ]))
          (refine u_take 7 (v := ?_) rfl rfl (by kernel_rfl) (by kernel_rfl) (fun _ _ _ h => h) (Or.inl ⟨by rfl, ?_⟩) ?_; rotate_left; (focus (intro wz hSw; (try dsimp only at hSw); go_simp; (try with_reducible rfl))); (try simp only [Act.put, List.getElem_toArray, List.getElem_cons_succ, List.getElem_cons_zero, List.setIfInBounds_toArray, List.set_cons_zero, List.set_cons_succ]))
          (refine u_take 8 (v := ?_) rfl rfl (by kernel_rfl) (by kernel_rfl) (fun _ _ _ h => h) (Or.inl ⟨by rfl, ?_⟩) ?_; rotate_left; (focus (intro wz hSw; (try dsimp only at hSw); go_simp; (try with_reducible rfl))); (try simp only [Act.put, List.getElem_toArray, List.getElem_cons_succ, List.getElem_cons_zero, List.setIfInBounds_toArray, List.set_cons_zero, List.set_cons_succ]))
          (refine u_take 9 (v := ?_) rfl rfl (by kernel_rfl) (by kernel_rfl) (fun _ _ _ h => h) (Or.inl ⟨by rfl, ?_⟩) ?_; rotate_left; (focus (intro wz hSw; (try dsimp only at hSw); go_simp; (try with_reducible rfl))); (try simp only [Act.put, List.getElem_toArray, List.getElem_cons_succ, List.getElem_cons_zero, List.setIfInBounds_toArray, List.set_cons_zero, List.set_cons_succ]))
          (refine u_take 10 (v := ?_) rfl rfl (by kernel_rfl) (by kernel_rfl) (fun _ _ _ h => h) (Or.inl ⟨by rfl, ?_⟩) ?_; rotate_left; (focus (intro wz hSw; (try dsimp only at hSw); go_simp; (try with_reducible rfl))); (try simp only [Act.put, List.getElem_toArray, List.getElem_cons_succ, List.getElem_cons_zero, List.setIfInBounds_toArray, List.set_cons_zero, List.set_cons_succ]))
          (refine u_take 11 (v := ?_) rfl rfl (by kernel_rfl) (by kernel_rfl) (fun _ _ _ h => h) (Or.inl ⟨by rfl, ?_⟩) ?_; rotate_left; (focus (intro wz hSw; (try dsimp only at hSw); go_simp; (try with_reducible rfl))); (try simp only [Act.put, List.getElem_toArray, List.getElem_cons_succ, List.getElem_cons_zero, List.setIfInBounds_toArray, List.set_cons_zero, List.set_cons_succ]))
          refine u_last (by kernel_rfl) rfl (by kernel_rfl) ?_
          go_wp2_with fail
          go_ret
          refine ⟨ret_int ?_, ?_, ?_⟩
          · have := HR.out
            have := HIQ.out
            omega
          · with_reducible repeat (first | exact Fr.refl _ _ | assumption | apply Fr.drew | apply Fr.drewN | apply Fr.alloc | (apply Fr.step; assumption; (intro _ h; (first | exact h | (focus (simp_all; done))))) | (apply Fr.setIn; (first | exact List.mem_cons_self | exact List.mem_cons_of_mem _ List.mem_cons_self | exact List.mem_cons_of_mem _ (List.mem_cons_of_mem _ List.mem_cons_self) | exact List.mem_cons_of_mem _ (List.mem_cons_of_mem _ (List.mem_cons_of_mem _ List.mem_cons_self)))) | (apply Fr.setNew; (first | omega | (simp; omega))))
          · rw [bit_or ux hm]
            have e := HR.out
            have eq := HIQ.out
            refine Blk.cast (HB.out.same (3 + i) _) ?_
            rcases (show i = 0 ∨ i = 1 ∨ i = 2 ∨ i = 3 by omega) with rfl | rfl | rfl | rfl <;> simp [setU, ← eq, e]
end Go.Proofs.Ytkimldeagndgjaa
