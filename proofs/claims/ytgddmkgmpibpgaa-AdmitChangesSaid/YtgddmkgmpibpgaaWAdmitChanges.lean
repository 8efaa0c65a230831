/- The law AdmitChanges, walked. -/
import Derived.Test.YtgddmkgmpibpgaaAdmF
import Derived.Test.YtgddmkgmpibpgaaAdmH
namespace Go.Proofs.Ytgddmkgmpibpgaa
set_option linter.unusedVariables false
set_option linter.unusedSimpArgs false
open Go.RowKit

set_option maxHeartbeats 2000000 in
theorem admitChanges_any (w : World) (cs : Array Value) (g : Int) (hs : IsSym cs g) (hg : In64 g) (p : Int) (on : Bool) (bid oid oow osd opr oqt ofl osq k sy id ow sd ty pr qt fl : Int) (hp : In64 pr) :
    Calls Try.prog 10 #[.agg cs, .int .i64 p, .agg #[.bool on, .int .i64 bid], .agg #[.int .i64 oid, .int .i64 oow, .int .i64 osd, .int .i64 opr, .int .i64 oqt, .int .i64 ofl, .int .i64 osq], .agg #[.int .i64 k, .int .i64 sy, .int .i64 id, .int .i64 ow, .int .i64 sd, .int .i64 ty, .int .i64 pr, .int .i64 qt, .int .i64 fl]] w fun e w' => e = .returned (.bool true) ∧ Fr [] w w' := by
  have hsz := hs.size
  have HN := Lib.hid (fun w => repl_any w cs g hs hg p on bid oid oow osd opr oqt ofl osq k sy id ow sd ty pr qt fl hp)
  have HR := Lib.hid (fun w => refRepl_any w cs g hs hg p on bid oid oow osd opr oqt ofl osq k sy id ow sd ty pr qt fl hp)
  have HK := Lib.hid (fun w => keeps_any w oid oow osd opr oqt ofl osq k sy id ow sd ty pr qt fl)
  have HK' := Lib.hid (fun w => refKeeps_any w oid oow osd opr oqt ofl osq k sy id ow sd ty pr qt fl)
  have HC := Lib.hid (fun w => cancel_any w p)
  have HC' := Lib.hid (fun w => refCancel_any w p)
  clear hs hg hp
  generalize replI g p on bid osd ofl k sy id ow sd ty pr qt fl = r at HN HR
  generalize (pr == opr && (decide (1 ≤ qt) && decide (qt ≤ oqt))) = m at HK HK'
  generalize cancelI p = rr at HC HC'
  go_enter Try.func10, Try.ntmps10
  go_wp2_with fail
  refine wp_name (fun W0 hW => ?_)
  have B1 := Blk.box3 hW
  have B2 := Blk.box2 hW
  have B3 := Blk.box1 hW
  have B4 := Blk.box0 hW
  have F0 : Fr [] w W0 := Fr.eqv hW (by with_reducible repeat (first | exact Fr.refl _ _ | assumption | apply Fr.drew | apply Fr.drewN | apply Fr.alloc | (apply Fr.step; assumption; (intro _ h; (first | exact h | (focus (simp_all; done))))) | (apply Fr.setIn; (first | exact List.mem_cons_self | exact List.mem_cons_of_mem _ List.mem_cons_self | exact List.mem_cons_of_mem _ (List.mem_cons_of_mem _ List.mem_cons_self) | exact List.mem_cons_of_mem _ (List.mem_cons_of_mem _ (List.mem_cons_of_mem _ List.mem_cons_self)))) | (apply Fr.setNew; (first | omega | (simp; omega)))))
  simp only [World.size_alloc] at B2 B3 B4
  clear hW
  refine wp_region_soft (by kernel_rfl) (by kernel_rfl) ?_; (repeat (refine wpQuiet_step (fun K hK => ?_); (first | ((refine soft_row 25 _ w.heap.size _ cs _ rfl rfl rfl (fun W hC => Blk.via hC (by simp) B1) Try.underlying25 rfl (by rw [hsz]; exact info_sym) ?_); go_simp; refine hK _ ?_; clear hK K) | (apply soft_do; (rfl); (focus (intro W hC; (have q2 := (Blk.via hC (by simp) B2).cell; have q3 := (Blk.via hC (by simp) B3).cell; have q4 := (Blk.via hC (by simp) B4).cell); go_simp; (first | (first | (go_at_call 36; refine (own25_any _ _ _).mono ?_; rintro e w2 ⟨rfl, hf⟩; exact ⟨rfl, hC.trans hf⟩) | (go_at_call 45; refine (HN.out _).mono ?_; rintro e w2 ⟨rfl, hf⟩; exact ⟨rfl, hC.trans hf⟩) | (go_at_call 46; refine (HR.out _).mono ?_; rintro e w2 ⟨rfl, hf⟩; exact ⟨rfl, hC.trans hf⟩) | (go_at_call 47; refine (HK.out _).mono ?_; rintro e w2 ⟨rfl, hf⟩; exact ⟨rfl, hC.trans hf⟩) | (go_at_call 48; refine (HK'.out _).mono ?_; rintro e w2 ⟨rfl, hf⟩; exact ⟨rfl, hC.trans hf⟩) | (go_at_call 49; refine (HC.out _).mono ?_; rintro e w2 ⟨rfl, hf⟩; exact ⟨rfl, hC.trans hf⟩) | (go_at_call 50; refine (HC'.out _).mono ?_; rintro e w2 ⟨rfl, hf⟩; exact ⟨rfl, hC.trans hf⟩) | (go_at_call 44; refine (admAlive_any _).mono ?_; rintro e w2 ⟨rfl, hf⟩; exact ⟨rfl, hC.trans hf⟩)) | done | rfl | exact ⟨rfl, rfl⟩))); (go_simp; refine hK _ ?_; clear hK K)) | (apply soft_skip; (rfl); (go_simp; refine hK _ ?_; clear hK K))))); refine wpQuiet_nil ?_
  intro w1 F1
  go_wp2_with fail
  go_ret
  exact ⟨rfl, F0.trans F1⟩

theorem admitChanges_walk (w : World) (a0_0 : Int) (a0_1 : Int) (a0_2 : Int) (a0_3 : Int) (a0_4 : Int) (a0_5 : Int) (a0_6 : Int) (a0_7 : Int) (a0_8 : Int) (a0_9 : Int) (a0_10 : Int) (a0_11 : Int) (a0_12 : Int) (a0_13 : Int) (a0_14 : Int) (a0_15 : Int) (a1 : Int) (a2_0 : Bool) (a2_1 : Int) (a3_0 : Int) (a3_1 : Int) (a3_2 : Int) (a3_3 : Int) (a3_4 : Int) (a3_5 : Int) (a3_6 : Int) (a4_0 : Int) (a4_1 : Int) (a4_2 : Int) (a4_3 : Int) (a4_4 : Int) (a4_5 : Int) (a4_6 : Int) (a4_7 : Int) (a4_8 : Int) (b0_0 : -9223372036854775808 ≤ a0_0 ∧ a0_0 ≤ 9223372036854775807) (b0_1 : -9223372036854775808 ≤ a0_1 ∧ a0_1 ≤ 9223372036854775807) (b0_2 : -9223372036854775808 ≤ a0_2 ∧ a0_2 ≤ 9223372036854775807) (b0_3 : -9223372036854775808 ≤ a0_3 ∧ a0_3 ≤ 9223372036854775807) (b0_4 : -9223372036854775808 ≤ a0_4 ∧ a0_4 ≤ 9223372036854775807) (b0_5 : -9223372036854775808 ≤ a0_5 ∧ a0_5 ≤ 9223372036854775807) (b0_6 : -9223372036854775808 ≤ a0_6 ∧ a0_6 ≤ 9223372036854775807) (b0_7 : -9223372036854775808 ≤ a0_7 ∧ a0_7 ≤ 9223372036854775807) (b0_8 : -9223372036854775808 ≤ a0_8 ∧ a0_8 ≤ 9223372036854775807) (b0_9 : -9223372036854775808 ≤ a0_9 ∧ a0_9 ≤ 9223372036854775807) (b0_10 : -9223372036854775808 ≤ a0_10 ∧ a0_10 ≤ 9223372036854775807) (b0_11 : -9223372036854775808 ≤ a0_11 ∧ a0_11 ≤ 9223372036854775807) (b0_12 : -9223372036854775808 ≤ a0_12 ∧ a0_12 ≤ 9223372036854775807) (b0_13 : -9223372036854775808 ≤ a0_13 ∧ a0_13 ≤ 9223372036854775807) (b0_14 : -9223372036854775808 ≤ a0_14 ∧ a0_14 ≤ 9223372036854775807) (b0_15 : -9223372036854775808 ≤ a0_15 ∧ a0_15 ≤ 9223372036854775807) (b1 : -9223372036854775808 ≤ a1 ∧ a1 ≤ 9223372036854775807) (b2_1 : -9223372036854775808 ≤ a2_1 ∧ a2_1 ≤ 9223372036854775807) (b3_0 : -9223372036854775808 ≤ a3_0 ∧ a3_0 ≤ 9223372036854775807) (b3_1 : -9223372036854775808 ≤ a3_1 ∧ a3_1 ≤ 9223372036854775807) (b3_2 : -9223372036854775808 ≤ a3_2 ∧ a3_2 ≤ 9223372036854775807) (b3_3 : -9223372036854775808 ≤ a3_3 ∧ a3_3 ≤ 9223372036854775807) (b3_4 : -9223372036854775808 ≤ a3_4 ∧ a3_4 ≤ 9223372036854775807) (b3_5 : -9223372036854775808 ≤ a3_5 ∧ a3_5 ≤ 9223372036854775807) (b3_6 : -9223372036854775808 ≤ a3_6 ∧ a3_6 ≤ 9223372036854775807) (b4_0 : -9223372036854775808 ≤ a4_0 ∧ a4_0 ≤ 9223372036854775807) (b4_1 : -9223372036854775808 ≤ a4_1 ∧ a4_1 ≤ 9223372036854775807) (b4_2 : -9223372036854775808 ≤ a4_2 ∧ a4_2 ≤ 9223372036854775807) (b4_3 : -9223372036854775808 ≤ a4_3 ∧ a4_3 ≤ 9223372036854775807) (b4_4 : -9223372036854775808 ≤ a4_4 ∧ a4_4 ≤ 9223372036854775807) (b4_5 : -9223372036854775808 ≤ a4_5 ∧ a4_5 ≤ 9223372036854775807) (b4_6 : -9223372036854775808 ≤ a4_6 ∧ a4_6 ≤ 9223372036854775807) (b4_7 : -9223372036854775808 ≤ a4_7 ∧ a4_7 ≤ 9223372036854775807) (b4_8 : -9223372036854775808 ≤ a4_8 ∧ a4_8 ≤ 9223372036854775807) :
    Calls Try.prog 10 #[.agg #[.int .i64 a0_0, .int .i64 a0_1, .int .i64 a0_2, .int .i64 a0_3, .int .i64 a0_4, .int .i64 a0_5, .int .i64 a0_6, .int .i64 a0_7, .int .i64 a0_8, .int .i64 a0_9, .int .i64 a0_10, .int .i64 a0_11, .int .i64 a0_12, .int .i64 a0_13, .int .i64 a0_14, .int .i64 a0_15], .int .i64 a1, .agg #[.bool a2_0, .int .i64 a2_1], .agg #[.int .i64 a3_0, .int .i64 a3_1, .int .i64 a3_2, .int .i64 a3_3, .int .i64 a3_4, .int .i64 a3_5, .int .i64 a3_6], .agg #[.int .i64 a4_0, .int .i64 a4_1, .int .i64 a4_2, .int .i64 a4_3, .int .i64 a4_4, .int .i64 a4_5, .int .i64 a4_6, .int .i64 a4_7, .int .i64 a4_8]] w fun e w' => e = .returned (.bool true) ∧ Below w.heap.size w w' :=
  (admitChanges_any w _ a0_0 ⟨rfl, rfl⟩ b0_0 a1 a2_0 a2_1 a3_0 a3_1 a3_2 a3_3 a3_4 a3_5 a3_6 a4_0 a4_1 a4_2 a4_3 a4_4 a4_5 a4_6 a4_7 a4_8 b4_6).mono fun _ _ ⟨h1, h2⟩ => ⟨h1, h2.toBelow⟩
end Go.Proofs.Ytgddmkgmpibpgaa
