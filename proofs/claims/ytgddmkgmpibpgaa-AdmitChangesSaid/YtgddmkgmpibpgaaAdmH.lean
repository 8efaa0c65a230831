/- Changes of an order: the document's, walked. -/
import Derived.Test.YtgddmkgmpibpgaaAdmG
import Derived.Outline
namespace Go.Proofs.Ytgddmkgmpibpgaa
set_option linter.unusedVariables false
set_option linter.unusedSimpArgs false
open Go.RowKit Go.Shelf

set_option maxHeartbeats 2000000 in
theorem refRepl_any (w : World) (cs : Array Value) (g : Int) (hs : IsSym cs g) (hg : In64 g) (p : Int) (on : Bool) (bid oid oow osd opr oqt ofl osq k sy id ow sd ty pr qt fl : Int) (hp : In64 pr) :
    Calls Try.prog 46 #[.agg cs, .int .i64 p, .agg #[.bool on, .int .i64 bid], .agg #[.int .i64 oid, .int .i64 oow, .int .i64 osd, .int .i64 opr, .int .i64 oqt, .int .i64 ofl, .int .i64 osq], .agg #[.int .i64 k, .int .i64 sy, .int .i64 id, .int .i64 ow, .int .i64 sd, .int .i64 ty, .int .i64 pr, .int .i64 qt, .int .i64 fl]] w fun e w' => e = .returned (.int .i64 (replI g p on bid osd ofl k sy id ow sd ty pr qt fl)) ∧ Fr [] w w' := by
  have hsz := hs.size
  have HR := Lib.hid (fun w => refRight_any w k sy id ow sd ty pr qt fl)
  have HV := Lib.hid (fun w => refValues_any w cs g hs on bid oid oow osd pr qt ofl osq false hp hg)
  have HM := Lib.hid (fun w => refMatches_any w p)
  have HT := Lib.hid (fun w => refRests_any w p)
  clear hs hp hg
  unfold replI kindI
  generalize rightB k sy id ow sd ty pr qt fl = rb at HR ⊢
  rcases (show rb = false ∨ (rb = true ∧ (k == 3) = false ∧ (k != 3) = true) ∨ (rb = true ∧ k = 3) by cases rb <;> by_cases c : k = 3 <;> simp [c]) with rfl | ⟨rfl, k1, k2⟩ | ⟨rfl, rfl⟩
  · simp only [Bool.and_false, Bool.false_eq_true, if_false]
    rw [if_neg (by omega)]
    go_enter Try.func46, Try.ntmps46
    go_wp2_with fail
    refine (HR.out _).mono ?_
    rintro e w1 ⟨rfl, F1⟩
    go_wp2_with fail
    go_ret
    exact ⟨rfl, by with_reducible repeat (first | exact Fr.refl _ _ | assumption | apply Fr.drew | apply Fr.drewN | apply Fr.alloc | (apply Fr.step; assumption; (intro _ h; (first | exact h | (focus (simp_all; done))))) | (apply Fr.setIn; (first | exact List.mem_cons_self | exact List.mem_cons_of_mem _ List.mem_cons_self | exact List.mem_cons_of_mem _ (List.mem_cons_of_mem _ List.mem_cons_self) | exact List.mem_cons_of_mem _ (List.mem_cons_of_mem _ (List.mem_cons_of_mem _ List.mem_cons_self)))) | (apply Fr.setNew; (first | omega | (simp; omega))))⟩
  · simp only [k1, Bool.false_and, Bool.false_eq_true, if_false]
    rw [if_neg (by omega)]
    go_enter Try.func46, Try.ntmps46
    go_wp2_with fail
    refine (HR.out _).mono ?_
    rintro e w1 ⟨rfl, F1⟩
    have q1 := F1.cell
    go_wp2_with fail
    go_ret
    exact ⟨rfl, by with_reducible repeat (first | exact Fr.refl _ _ | assumption | apply Fr.drew | apply Fr.drewN | apply Fr.alloc | (apply Fr.step; assumption; (intro _ h; (first | exact h | (focus (simp_all; done))))) | (apply Fr.setIn; (first | exact List.mem_cons_self | exact List.mem_cons_of_mem _ List.mem_cons_self | exact List.mem_cons_of_mem _ (List.mem_cons_of_mem _ List.mem_cons_self) | exact List.mem_cons_of_mem _ (List.mem_cons_of_mem _ (List.mem_cons_of_mem _ List.mem_cons_self)))) | (apply Fr.setNew; (first | omega | (simp; omega))))⟩
  · simp only [BEq.rfl, Bool.and_self, if_true]
    unfold phaseI
    generalize matchesB p = m at HM ⊢
    generalize restsB p = r at HT ⊢
    have hc : (m = true ∨ (m = false ∧ r = true)) ∨ (m = false ∧ r = false) := by
      cases m <;> cases r <;> simp
    rcases hc with hc | ⟨rfl, rfl⟩
    · have e0 : (m || r && true) = true := by
        rcases hc with rfl | ⟨rfl, rfl⟩ <;> simp
      rw [e0]
      simp only [if_true]
      clear e0
      rcases hc with rfl | ⟨rfl, rfl⟩
      all_goals
        go_enter Try.func46, Try.ntmps46
        go_wp2_with fail
        refine (HR.out _).mono ?_
        rintro e w1 ⟨rfl, F1⟩
        have q1 := F1.cell
        go_wp2_with fail
        refine (HM.out _).mono ?_
        rintro e w2 ⟨rfl, rfl⟩
        have B3 := Blk.via F1 (by simp) (Blk.box3 rfl)
        have B2 := Blk.via F1 (by simp) (Blk.box2 rfl)
        have B1 := Blk.via F1 (by simp) (Blk.box1 rfl)
        have B0 := Blk.via F1 (by simp) (Blk.box0 rfl)
        simp only [World.size_alloc] at B2 B1 B0
        have F0 : Fr [] w w1 := by with_reducible repeat (first | exact Fr.refl _ _ | assumption | apply Fr.drew | apply Fr.drewN | apply Fr.alloc | (apply Fr.step; assumption; (intro _ h; (first | exact h | (focus (simp_all; done))))) | (apply Fr.setIn; (first | exact List.mem_cons_self | exact List.mem_cons_of_mem _ List.mem_cons_self | exact List.mem_cons_of_mem _ (List.mem_cons_of_mem _ List.mem_cons_self) | exact List.mem_cons_of_mem _ (List.mem_cons_of_mem _ (List.mem_cons_of_mem _ List.mem_cons_self)))) | (apply Fr.setNew; (first | omega | (simp; omega))))
        clear F1 q1
        have c0 := B0.cell
        have c1 := B1.cell
        have f1 := B1.frozen
        have l1 := B1.lt
        have c2 := B2.cell
        (first
          | (go_wp2_with (refine wpList_loadSym rfl (.tmp 5) rfl w.heap.size rfl cs ((B3.off (by omega)).off (by omega)) hsz ?_)
             refine (HT.out _).mono ?_
             rintro e w2 ⟨rfl, rfl⟩
             go_wp2_with (refine wpList_loadSym rfl (.tmp 5) rfl w.heap.size rfl cs ((B3.off (by omega)).off (by omega)) hsz ?_))
          | go_wp2_with (refine wpList_loadSym rfl (.tmp 5) rfl w.heap.size rfl cs ((B3.off (by omega)).off (by omega)) hsz ?_))
        refine (HV.out _).mono ?_
        rintro e w2 ⟨rfl, F2⟩
        go_wp2_with fail
        go_ret
        exact ⟨rfl, Fr.trans (by with_reducible repeat (first | exact Fr.refl _ _ | assumption | apply Fr.drew | apply Fr.drewN | apply Fr.alloc | (apply Fr.step; assumption; (intro _ h; (first | exact h | (focus (simp_all; done))))) | (apply Fr.setIn; (first | exact List.mem_cons_self | exact List.mem_cons_of_mem _ List.mem_cons_self | exact List.mem_cons_of_mem _ (List.mem_cons_of_mem _ List.mem_cons_self) | exact List.mem_cons_of_mem _ (List.mem_cons_of_mem _ (List.mem_cons_of_mem _ List.mem_cons_self)))) | (apply Fr.setNew; (first | omega | (simp; omega))))) F2⟩
    · simp only [Bool.or_self, Bool.false_and, Bool.false_eq_true, if_false]
      rw [if_neg (by omega)]
      go_enter Try.func46, Try.ntmps46
      go_wp2_with fail
      refine (HR.out _).mono ?_
      rintro e w1 ⟨rfl, F1⟩
      have q1 := F1.cell
      go_wp2_with fail
      refine (HM.out _).mono ?_
      rintro e w2 ⟨rfl, rfl⟩
      go_wp2_with fail
      refine (HT.out _).mono ?_
      rintro e w2 ⟨rfl, rfl⟩
      go_wp2_with fail
      go_ret
      exact ⟨rfl, by with_reducible repeat (first | exact Fr.refl _ _ | assumption | apply Fr.drew | apply Fr.drewN | apply Fr.alloc | (apply Fr.step; assumption; (intro _ h; (first | exact h | (focus (simp_all; done))))) | (apply Fr.setIn; (first | exact List.mem_cons_self | exact List.mem_cons_of_mem _ List.mem_cons_self | exact List.mem_cons_of_mem _ (List.mem_cons_of_mem _ List.mem_cons_self) | exact List.mem_cons_of_mem _ (List.mem_cons_of_mem _ (List.mem_cons_of_mem _ List.mem_cons_self)))) | (apply Fr.setNew; (first | omega | (simp; omega))))⟩
end Go.Proofs.Ytgddmkgmpibpgaa
