/- The law ShortLeast, walked. -/
import Derived.Test.YtgddmkgmpibpgaaShort
namespace Go.Proofs.Ytgddmkgmpibpgaa
set_option linter.unusedVariables false
set_option linter.unusedSimpArgs false
open Go.RowKit

theorem least_facts (on : Bool) (bid g : Int) (hb : In64 bid) (_hg : In64 g) :
    ((leastI on bid g).2 = false → (leastI on bid g).1 = 0) ∧
    ((leastI on bid g).2 = true → on = true ∧ 1 ≤ g ∧ g ≤ 1099511627776 ∧ 0 ≤ bid ∧ bid < (leastI on bid g).1 ∧ (leastI on bid g).1 - g ≤ bid ∧ (leastI on bid g).1 % g = 0 ∧ (leastI on bid g).1 ≤ 1099511627776) := by
  unfold leastI
  by_cases c : on = false ∨ bid < 0 ∨ 1099511627776 < bid ∨ 1099511627776 < g
  · rw [if_pos c]; exact ⟨fun _ => rfl, fun h => by cases h⟩
  · rw [if_neg c]
    obtain rfl : on = true := by cases on <;> simp_all
    have c1 : 0 ≤ bid := by omega
    unfold upI
    by_cases d : bid + 1 < 0 ∨ g < 1
    · rw [if_pos d]; exact ⟨fun _ => rfl, fun h => by simp at h⟩
    · rw [if_neg d]
      have g1 : 1 ≤ g := by omega
      obtain ⟨d1, d2, d3⟩ := downI_bd (p := bid + 1) (by omega) g1
      have hm : (bid + 1) / g * g % g = 0 := Int.mul_emod_left _ _
      by_cases e : (bid + 1) / g * g = bid + 1
      · rw [if_pos e]
        rw [e] at hm
        by_cases f : 1099511627776 < bid + 1
        · rw [if_pos (.inr f)]; exact ⟨fun _ => rfl, fun h => by simp at h⟩
        · rw [if_neg (by simp; omega)]
          refine ⟨fun h => by simp at h, fun _ => ⟨rfl, g1, by omega, c1, ?_, ?_, hm, ?_⟩⟩ <;> dsimp only <;> omega
      · rw [if_neg e]
        have hm2 : ((bid + 1) / g * g + g) % g = 0 := by rw [Int.add_emod_right, hm]
        by_cases f : In64 ((bid + 1) / g * g + g)
        · rw [if_pos f]
          by_cases k : 1099511627776 < (bid + 1) / g * g + g
          · rw [if_pos (.inr k)]; exact ⟨fun _ => rfl, fun h => by simp at h⟩
          · rw [if_neg (by simp; omega)]
            refine ⟨fun h => by simp at h, fun _ => ⟨rfl, g1, by omega, c1, ?_, ?_, hm2, ?_⟩⟩ <;> dsimp only <;> omega
        · rw [if_neg f]; exact ⟨fun _ => by simp, fun h => by simp at h⟩

theorem shortLeast_walk (w : World) (a0_0 : Bool) (a0_1 : Int) (a1_0 : Int) (a1_1 : Int) (a1_2 : Int) (a1_3 : Int) (a1_4 : Int) (a1_5 : Int) (a1_6 : Int) (a1_7 : Int) (a1_8 : Int) (a1_9 : Int) (a1_10 : Int) (a1_11 : Int) (a1_12 : Int) (a1_13 : Int) (a1_14 : Int) (a1_15 : Int) (b0_1 : -9223372036854775808 ≤ a0_1 ∧ a0_1 ≤ 9223372036854775807) (b1_0 : -9223372036854775808 ≤ a1_0 ∧ a1_0 ≤ 9223372036854775807) (b1_1 : -9223372036854775808 ≤ a1_1 ∧ a1_1 ≤ 9223372036854775807) (b1_2 : -9223372036854775808 ≤ a1_2 ∧ a1_2 ≤ 9223372036854775807) (b1_3 : -9223372036854775808 ≤ a1_3 ∧ a1_3 ≤ 9223372036854775807) (b1_4 : -9223372036854775808 ≤ a1_4 ∧ a1_4 ≤ 9223372036854775807) (b1_5 : -9223372036854775808 ≤ a1_5 ∧ a1_5 ≤ 9223372036854775807) (b1_6 : -9223372036854775808 ≤ a1_6 ∧ a1_6 ≤ 9223372036854775807) (b1_7 : -9223372036854775808 ≤ a1_7 ∧ a1_7 ≤ 9223372036854775807) (b1_8 : -9223372036854775808 ≤ a1_8 ∧ a1_8 ≤ 9223372036854775807) (b1_9 : -9223372036854775808 ≤ a1_9 ∧ a1_9 ≤ 9223372036854775807) (b1_10 : -9223372036854775808 ≤ a1_10 ∧ a1_10 ≤ 9223372036854775807) (b1_11 : -9223372036854775808 ≤ a1_11 ∧ a1_11 ≤ 9223372036854775807) (b1_12 : -9223372036854775808 ≤ a1_12 ∧ a1_12 ≤ 9223372036854775807) (b1_13 : -9223372036854775808 ≤ a1_13 ∧ a1_13 ≤ 9223372036854775807) (b1_14 : -9223372036854775808 ≤ a1_14 ∧ a1_14 ≤ 9223372036854775807) (b1_15 : -9223372036854775808 ≤ a1_15 ∧ a1_15 ≤ 9223372036854775807) :
    Calls Try.prog 3 #[.agg #[.bool a0_0, .int .i64 a0_1], .agg #[.int .i64 a1_0, .int .i64 a1_1, .int .i64 a1_2, .int .i64 a1_3, .int .i64 a1_4, .int .i64 a1_5, .int .i64 a1_6, .int .i64 a1_7, .int .i64 a1_8, .int .i64 a1_9, .int .i64 a1_10, .int .i64 a1_11, .int .i64 a1_12, .int .i64 a1_13, .int .i64 a1_14, .int .i64 a1_15]] w fun e w' => e = .returned (.bool true) ∧ Below w.heap.size w w' := by
  go_enter Try.func3, Try.ntmps3
  go_wp2_with fail
  refine wp_name (fun W0 hW => ?_)
  have B1 := Blk.box1 hW
  have B2 := Blk.box0 hW
  have F0 : Fr [] w W0 := by rw [hW]; with_reducible repeat (first | exact Fr.refl _ _ | assumption | apply Fr.drew | apply Fr.drewN | apply Fr.alloc | (apply Fr.step; assumption; (intro _ h; (first | exact h | cases h | (simp_all; done)))) | (apply Fr.setIn; (first | exact List.mem_cons_self | exact List.mem_cons_of_mem _ List.mem_cons_self | exact List.mem_cons_of_mem _ (List.mem_cons_of_mem _ List.mem_cons_self) | exact List.mem_cons_of_mem _ (List.mem_cons_of_mem _ (List.mem_cons_of_mem _ List.mem_cons_self)))) | (apply Fr.setNew; (first | omega | (simp; omega))))
  simp only [World.size_alloc] at B2
  clear hW
  refine wp_region_soft (by kernel_rfl) (by kernel_rfl) ?_; (repeat (refine wpQuiet_step (fun K hK => ?_); (first | (refine soft_row 25 _ _ _ _ _ rfl rfl rfl (fun W hC => Blk.via hC (by simp) B2) Try.underlying25 rfl (by kernel_rfl) ?_; go_simp; refine hK _ ?_; clear hK K) | (apply soft_do; (rfl); (focus (intro W hC; have q1 := (Blk.via hC (by simp) B1).cell; have q2 := (Blk.via hC (by simp) B2).cell; go_simp; (first | (first | (go_at_call 14; refine (shortOwn_any _ _ _).mono ?_; rintro e w2 ⟨rfl, hf⟩; exact ⟨rfl, hC.trans hf⟩) | (go_at_call 13; refine (least_any _ _ _ _ _ _ _ _ _ _ _ _ _ _ _ _ _ _ _ b0_1 b1_0).mono ?_; rintro e w2 ⟨rfl, hf⟩; exact ⟨rfl, hC.trans hf⟩)) | done | rfl | exact ⟨rfl, rfl⟩))); (go_simp; refine hK _ ?_; clear hK K)) | (apply soft_skip; (rfl); (go_simp; refine hK _ ?_; clear hK K))))); refine wpQuiet_nil ?_
  intro w1 hf1
  obtain ⟨lf1, lf2⟩ := least_facts a0_0 a0_1 a1_0 b0_1 b1_0
  generalize leastI a0_0 a0_1 a1_0 = r at lf1 lf2 ⊢
  obtain ⟨q, is⟩ := r
  dsimp only at lf1 lf2 ⊢
  clear b1_1 b1_2 b1_3 b1_4 b1_5 b1_6 b1_7 b1_8 b1_9 b1_10 b1_11 b1_12 b1_13 b1_14 b1_15
  have C1 := Blk.via hf1 (by simp) B1
  have C2 := Blk.via hf1 (by simp) B2
  have F1 := F0.trans hf1
  have l0 := F1.size
  clear B1 B2 hf1 F0
  cases is with
  | false =>
    obtain rfl := lf1 rfl
    clear lf1 lf2
    go_wp2_with fail
    refine (shortAlive_any _).mono ?_
    rintro e w2 ⟨rfl, hf2⟩
    go_wp2_with fail
    go_ret
    exact ⟨rfl, (F1.trans hf2).toBelow⟩
  | true =>
    obtain ⟨rfl, g1, g2, p1, p2, p3, p4, p5⟩ := lf2 rfl
    clear lf1 lf2
    have hm1 : mayB true a0_1 1 q 1 = true := by simp [mayB]; omega
    have hm2 : mayB true a0_1 1 (q - a1_0) 1 = false := by
      have b1 : bits .and .i64 1 3 = 1 := by kernel_rfl
      simp [mayB, coversB, b1]; omega
    have hz : ¬ a1_0 = 0 := by omega
    have hmod : q.tmod a1_0 = 0 := by rw [Int.tmod_eq_emod_of_nonneg (by omega), p4]
    have HM1 := Lib.hid hm1
    have HM2 := Lib.hid hm2
    clear hm1 hm2 p4
    go_wp2_with fail
    refine wp_name (fun W1 hW => ?_)
    have B3 := Blk.box0 hW
    have D1 := Blk.eqv hW (C1.alloc _)
    have D2 := Blk.eqv hW (C2.alloc _)
    have F2 := Fr.eqv hW (F1.alloc _)
    have l3 := C1.lt
    have l4 := C2.lt
    clear hW C1 C2 F1
    have hd1 : decide (q < 1) = false := by simp; omega
    have hd2 : decide (1099511627776 < q) = false := by simp; omega
    refine wp_region_soft (by kernel_rfl) (by kernel_rfl) ?_; (repeat (refine wpQuiet_step (fun K hK => ?_); (first | (fail; go_simp; refine hK _ ?_; clear hK K) | (apply soft_do; (rfl); (focus (intro W hC; have q1 := (Blk.via hC (by simp) D1).cell; have q2 := (Blk.via hC (by simp) D2).cell; have q3 := (Blk.via hC (by simp) B3).cell; go_simp; (first | (first | (go_at_call 14; refine (shortOwn_any _ _ _).mono ?_; rintro e w2 ⟨rfl, hf⟩; exact ⟨rfl, hC.trans hf⟩) | (go_at_call 16; refine (may_any _ _ _ _ _ _ _ _ _ _).mono ?_; rw [HM1.out]; rintro e w2 ⟨rfl, hf⟩; exact ⟨rfl, hC.trans hf⟩)) | done | rfl | exact ⟨rfl, rfl⟩))); (go_simp; refine hK _ ?_; clear hK K)) | (apply soft_skip; (rfl); (go_simp; refine hK _ ?_; clear hK K))))); refine wpQuiet_nil ?_
    intro w2 hf2
    have E1 := Blk.via hf2 (by simp) D1
    have E2 := Blk.via hf2 (by simp) D2
    have E3 := Blk.via hf2 (by simp) B3
    have F3 := F2.trans hf2
    clear D1 D2 B3 F2 hf2
    have q2 := E2.cell
    have q3 := E3.frozen
    have q4 := E3.cell
    go_wp2_with fail
    refine wp_name (fun W2 hW => ?_)
    have G1 := Blk.eqv hW (Blk.off (by omega) E1)
    have G3 : Blk W2 w1.heap.size 32 #[.int .i64 0, .int .i64 0, .int .i64 1, .int .i64 (q - a1_0), .int .i64 0, .int .i64 1, .int .i64 0] := Blk.eqv hW (E3.same 3 _)
    have F4 := Fr.eqv hW (Fr.setNew (by omega) F3)
    clear hW E1 E2 E3 F3 q2 q3 q4
    refine wp_region_soft (by kernel_rfl) (by kernel_rfl) ?_; (repeat (refine wpQuiet_step (fun K hK => ?_); (first | (fail; go_simp; refine hK _ ?_; clear hK K) | (apply soft_do; (rfl); (focus (intro W hC; have q1 := (Blk.via hC (by simp) G1).cell; have q3 := (Blk.via hC (by simp) G3).cell; go_simp; (first | (first | (go_at_call 14; refine (shortOwn_any _ _ _).mono ?_; rintro e w2 ⟨rfl, hf⟩; exact ⟨rfl, hC.trans hf⟩) | (go_at_call 16; refine (may_any _ _ _ _ _ _ _ _ _ _).mono ?_; rw [HM2.out]; rintro e w2 ⟨rfl, hf⟩; exact ⟨rfl, hC.trans hf⟩) | (go_at_call 15; refine (shortAlive_any _).mono ?_; rintro e w2 ⟨rfl, hf⟩; exact ⟨rfl, hC.trans hf⟩)) | done | rfl | exact ⟨rfl, rfl⟩))); (go_simp; refine hK _ ?_; clear hK K)) | (apply soft_skip; (rfl); (go_simp; refine hK _ ?_; clear hK K))))); refine wpQuiet_nil ?_
    intro w3 hf3
    go_wp2_with fail
    go_ret
    exact ⟨rfl, (F4.trans hf3).toBelow⟩
end Go.Proofs.Ytgddmkgmpibpgaa
