/- The law ShortMays, walked. -/
import Derived.Test.YtgddmkgmpibpgaaShortB
namespace Go.Proofs.Ytgddmkgmpibpgaa
set_option linter.unusedVariables false
set_option linter.unusedSimpArgs false
open Go.RowKit

theorem shortMays_walk (w : World) (a0_0 : Int) (a0_1 : Int) (a0_2 : Int) (a0_3 : Int) (a0_4 : Int) (a0_5 : Int) (a0_6 : Int) (a0_7 : Int) (a0_8 : Int) (a0_9 : Int) (a0_10 : Int) (a0_11 : Int) (a0_12 : Int) (a0_13 : Int) (a0_14 : Int) (a0_15 : Int) (a1_0 : Bool) (a1_1 : Int) (a2_0 : Int) (a2_1 : Int) (a2_2 : Int) (a2_3 : Int) (a2_4 : Int) (a2_5 : Int) (a2_6 : Int) (a3 : Int) (a4 : Int) (b0_0 : -9223372036854775808 ≤ a0_0 ∧ a0_0 ≤ 9223372036854775807) (b0_1 : -9223372036854775808 ≤ a0_1 ∧ a0_1 ≤ 9223372036854775807) (b0_2 : -9223372036854775808 ≤ a0_2 ∧ a0_2 ≤ 9223372036854775807) (b0_3 : -9223372036854775808 ≤ a0_3 ∧ a0_3 ≤ 9223372036854775807) (b0_4 : -9223372036854775808 ≤ a0_4 ∧ a0_4 ≤ 9223372036854775807) (b0_5 : -9223372036854775808 ≤ a0_5 ∧ a0_5 ≤ 9223372036854775807) (b0_6 : -9223372036854775808 ≤ a0_6 ∧ a0_6 ≤ 9223372036854775807) (b0_7 : -9223372036854775808 ≤ a0_7 ∧ a0_7 ≤ 9223372036854775807) (b0_8 : -9223372036854775808 ≤ a0_8 ∧ a0_8 ≤ 9223372036854775807) (b0_9 : -9223372036854775808 ≤ a0_9 ∧ a0_9 ≤ 9223372036854775807) (b0_10 : -9223372036854775808 ≤ a0_10 ∧ a0_10 ≤ 9223372036854775807) (b0_11 : -9223372036854775808 ≤ a0_11 ∧ a0_11 ≤ 9223372036854775807) (b0_12 : -9223372036854775808 ≤ a0_12 ∧ a0_12 ≤ 9223372036854775807) (b0_13 : -9223372036854775808 ≤ a0_13 ∧ a0_13 ≤ 9223372036854775807) (b0_14 : -9223372036854775808 ≤ a0_14 ∧ a0_14 ≤ 9223372036854775807) (b0_15 : -9223372036854775808 ≤ a0_15 ∧ a0_15 ≤ 9223372036854775807) (b1_1 : -9223372036854775808 ≤ a1_1 ∧ a1_1 ≤ 9223372036854775807) (b2_0 : -9223372036854775808 ≤ a2_0 ∧ a2_0 ≤ 9223372036854775807) (b2_1 : -9223372036854775808 ≤ a2_1 ∧ a2_1 ≤ 9223372036854775807) (b2_2 : -9223372036854775808 ≤ a2_2 ∧ a2_2 ≤ 9223372036854775807) (b2_3 : -9223372036854775808 ≤ a2_3 ∧ a2_3 ≤ 9223372036854775807) (b2_4 : -9223372036854775808 ≤ a2_4 ∧ a2_4 ≤ 9223372036854775807) (b2_5 : -9223372036854775808 ≤ a2_5 ∧ a2_5 ≤ 9223372036854775807) (b2_6 : -9223372036854775808 ≤ a2_6 ∧ a2_6 ≤ 9223372036854775807) (b3 : -9223372036854775808 ≤ a3 ∧ a3 ≤ 9223372036854775807) (b4 : -9223372036854775808 ≤ a4 ∧ a4 ≤ 9223372036854775807) :
    Calls Try.prog 4 #[.agg #[.int .i64 a0_0, .int .i64 a0_1, .int .i64 a0_2, .int .i64 a0_3, .int .i64 a0_4, .int .i64 a0_5, .int .i64 a0_6, .int .i64 a0_7, .int .i64 a0_8, .int .i64 a0_9, .int .i64 a0_10, .int .i64 a0_11, .int .i64 a0_12, .int .i64 a0_13, .int .i64 a0_14, .int .i64 a0_15], .agg #[.bool a1_0, .int .i64 a1_1], .agg #[.int .i64 a2_0, .int .i64 a2_1, .int .i64 a2_2, .int .i64 a2_3, .int .i64 a2_4, .int .i64 a2_5, .int .i64 a2_6], .int .i64 a3, .int .i64 a4] w fun e w' => e = .returned (.bool true) ∧ Below w.heap.size w w' := by
  clear b0_1 b0_2 b0_3 b0_4 b0_5 b0_6 b0_7 b0_8 b0_9 b0_10 b0_11 b0_12 b0_13 b0_14 b0_15 b2_0 b2_1 b2_2 b2_3 b2_4 b2_5 b2_6
  have I1 := Lib.hid (show In64 a1_1 from b1_1)
  have I2 := Lib.hid (show In64 a0_0 from b0_0)
  have I3 := Lib.hid (show In64 a3 from b3)
  have I4 := Lib.hid (show In64 a4 from b4)
  clear b1_1 b0_0 b3 b4
  go_enter Try.func4, Try.ntmps4
  go_wp2_with fail
  refine wp_name (fun W0 hW => ?_)
  have B1 := Blk.box2 hW
  have B2 := Blk.box1 hW
  have B3 := Blk.box0 hW
  have F0 : Fr [] w W0 := by rw [hW]; with_reducible repeat (first | exact Fr.refl _ _ | assumption | apply Fr.drew | apply Fr.drewN | apply Fr.alloc | (apply Fr.step; assumption; (intro _ h; (first | exact h | cases h | (simp_all; done)))) | (apply Fr.setIn; (first | exact List.mem_cons_self | exact List.mem_cons_of_mem _ List.mem_cons_self | exact List.mem_cons_of_mem _ (List.mem_cons_of_mem _ List.mem_cons_self) | exact List.mem_cons_of_mem _ (List.mem_cons_of_mem _ (List.mem_cons_of_mem _ List.mem_cons_self)))) | (apply Fr.setNew; (first | omega | (simp; omega))))
  simp only [World.size_alloc] at B2 B3
  clear hW
  refine wp_region_soft (by kernel_rfl) (by kernel_rfl) ?_; (repeat (refine wpQuiet_step (fun K hK => ?_); (first | ((first | refine soft_row 25 _ _ _ _ _ rfl rfl rfl (fun W hC => Blk.via hC (by simp) B1) Try.underlying25 rfl (by kernel_rfl) ?_ | refine soft_row 23 _ _ _ _ _ rfl rfl rfl (fun W hC => Blk.via hC (by simp) B2) Try.underlying23 rfl (by kernel_rfl) ?_); go_simp; refine hK _ ?_; clear hK K) | (apply soft_do; (rfl); (focus (intro W hC; (skip); go_simp; (first | (first | (go_at_call 14; refine (shortOwn_any _ _ _).mono ?_; rintro e w2 ⟨rfl, hf⟩; exact ⟨rfl, hC.trans hf⟩) | (go_at_call 13; refine (least_any _ _ _ _ _ _ _ _ _ _ _ _ _ _ _ _ _ _ _ I1.out I2.out).mono ?_; rintro e w2 ⟨rfl, hf⟩; exact ⟨rfl, hC.trans hf⟩)) | done | rfl | exact ⟨rfl, rfl⟩))); (go_simp; refine hK _ ?_; clear hK K)) | (apply soft_skip; (rfl); (go_simp; refine hK _ ?_; clear hK K))))); refine wpQuiet_nil ?_
  intro w1 hf1
  have C1 := Blk.via hf1 (by simp) B1
  have C2 := Blk.via hf1 (by simp) B2
  have C3 := Blk.via hf1 (by simp) B3
  have F1 := F0.trans hf1
  clear B1 B2 B3 F0 hf1
  go_wp2_with (first | refine wpList_load_row rfl 25 _ rfl _ rfl _ _ _ _ C1 Try.underlying25 rfl (by kernel_rfl) ?_ | refine wpList_load_row rfl 23 _ rfl _ rfl _ _ _ _ C2 Try.underlying23 rfl (by kernel_rfl) ?_ | (go_at_call 17; refine (refLeast_any _ _ _ _ _ _ _ _ _ _ _ _ _ _ _ _ _ _ _ I1.out I2.out).mono ?_; rintro e w2 ⟨rfl, hf2⟩))
  have D1 := Blk.via hf2 (by simp) C1
  have D2 := Blk.via hf2 (by simp) C2
  have D3 := Blk.via hf2 (by simp) C3
  have F2 := F1.trans hf2
  clear C1 C2 C3 F1 hf2
  generalize leastI a1_0 a1_1 a0_0 = r
  obtain ⟨r1, r2⟩ := r
  dsimp only
  refine wp_region_soft (by kernel_rfl) (by kernel_rfl) ?_; (repeat (refine wpQuiet_step (fun K hK => ?_); (first | ((first | refine soft_row 25 _ _ _ _ _ rfl rfl rfl (fun W hC => Blk.via hC (by simp) D1) Try.underlying25 rfl (by kernel_rfl) ?_ | refine soft_row 23 _ _ _ _ _ rfl rfl rfl (fun W hC => Blk.via hC (by simp) D2) Try.underlying23 rfl (by kernel_rfl) ?_ | refine soft_row 32 _ _ _ _ _ rfl rfl rfl (fun W hC => Blk.via hC (by simp) D3) Try.underlying32 rfl (by kernel_rfl) ?_); go_simp; refine hK _ ?_; clear hK K) | (apply soft_do; (rfl); (focus (intro W hC; (skip); go_simp; (first | (first | (go_at_call 14; refine (shortOwn_any _ _ _).mono ?_; rintro e w2 ⟨rfl, hf⟩; exact ⟨rfl, hC.trans hf⟩) | (go_at_call 18; refine (trips_any _ _ _ _ _ _ _ _ _ _ _ _ _ _ _ _ _ _ _ I3.out I4.out).mono ?_; rintro e w2 ⟨rfl, hf⟩; exact ⟨rfl, hC.trans hf⟩) | (go_at_call 19; refine (refTrips_any _ _ _ _ _ _ _ _ _ _ _ _ _ _ _ _ _ _ _).mono ?_; rintro e w2 ⟨rfl, hf⟩; exact ⟨rfl, hC.trans hf⟩) | (go_at_call 20; refine (covers_any _ _ _ _ _ _ _ _).mono ?_; rintro e w2 ⟨rfl, hf⟩; exact ⟨rfl, hC.trans hf⟩) | (go_at_call 21; refine (refCovers_any _ _ _ _ _ _ _ _).mono ?_; rintro e w2 ⟨rfl, hf⟩; exact ⟨rfl, hC.trans hf⟩) | (go_at_call 16; refine (may_any _ _ _ _ _ _ _ _ _ _).mono ?_; rintro e w2 ⟨rfl, hf⟩; exact ⟨rfl, hC.trans hf⟩) | (go_at_call 22; refine (refMay_any _ _ _ _ _ _ _ _ _ _).mono ?_; rintro e w2 ⟨rfl, hf⟩; exact ⟨rfl, hC.trans hf⟩) | (go_at_call 15; refine (shortAlive_any _).mono ?_; rintro e w2 ⟨rfl, hf⟩; exact ⟨rfl, hC.trans hf⟩)) | done | rfl | exact ⟨rfl, rfl⟩))); (go_simp; refine hK _ ?_; clear hK K)) | (apply soft_skip; (rfl); (go_simp; refine hK _ ?_; clear hK K))))); refine wpQuiet_nil ?_
  intro w3 hf3
  go_wp2_with fail
  go_ret
  exact ⟨rfl, (F2.trans hf3).toBelow⟩
end Go.Proofs.Ytgddmkgmpibpgaa
