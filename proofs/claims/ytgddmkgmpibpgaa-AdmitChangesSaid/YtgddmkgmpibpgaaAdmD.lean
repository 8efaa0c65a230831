/- admit: the document's values; new orders; changes: walked. -/
import Derived.Test.YtgddmkgmpibpgaaAdmC
import Derived.Outline
namespace Go.Proofs.Ytgddmkgmpibpgaa
set_option linter.unusedVariables false
set_option linter.unusedSimpArgs false
open Go.RowKit Go.Shelf

set_option maxHeartbeats 4000000 in
theorem refValues_any (w : World) (cs : Array Value) (g : Int) (hs : IsSym cs g) (on : Bool) (bid id ow sd pr qt fl sq : Int) (m : Bool) (hp : In64 pr) (hg : In64 g) :
    Calls Try.prog 84 #[.agg cs, .agg #[.bool on, .int .i64 bid], .agg #[.int .i64 id, .int .i64 ow, .int .i64 sd, .int .i64 pr, .int .i64 qt, .int .i64 fl, .int .i64 sq], .bool m] w fun e w' => e = .returned (.int .i64 (valuesI g on bid sd pr qt fl m)) ∧ Fr [] w w' := by
  have HS := Lib.hid hs
  have hsz := hs.size
  have hgr := HS.out.at0
  by_cases h1 : v1I m pr g = 0
  · have hpr := v1_zero h1
    have hhead : (m = true ∧ (pr == 0) = true ∧ (pr != 0) = false) ∨ (m = false ∧ priceI pr g = 0) := by
      cases m with
      | true =>
        refine .inl ⟨rfl, ?_⟩
        unfold v1I at h1
        by_cases c : pr = 0
        · simp [c]
        · simp [c] at h1
      | false => exact .inr ⟨rfl, by simpa [v1I] using h1⟩
    by_cases h2 : qtyI qt = 0
    · have hq := qty_zero h2
      obtain ⟨a, rfl⟩ := Int.eq_ofNat_of_zero_le hpr.1
      obtain ⟨b, rfl⟩ := Int.eq_ofNat_of_zero_le (show 0 ≤ qt by omega)
      have HN := Lib.hid (fun w => refNotional_any w a b (by omega) (by omega))
      have h3 : v3I (a : Int) (b : Int) = if (mulN (a * b)).2 then 0 else 2 := by unfold v3I; rw [Int.toNat_natCast, Int.toNat_natCast]
      have HQ := Lib.hid (fun w => by have := refQty_any w (b : Int); rw [h2] at this; exact this)
      have HP := Lib.hid (fun (h : priceI (a : Int) g = 0) w => by have := refPrice_any w (a : Int) g hp hg; rw [h] at this; exact this)
      have HM := Lib.hid (fun w => refMay_any w on bid id ow sd (a : Int) (b : Int) fl sq)
      have hval : valuesI g on bid sd (a : Int) (b : Int) fl m = if (mulN (a * b)).2 then v4I on bid sd (a : Int) fl else 2 := by
        unfold valuesI
        rw [if_pos h1, if_pos h2, h3]
        cases (mulN (a * b)).2 <;> simp
      rw [hval]
      unfold v4I
      generalize mulN (a * b) = r at HN ⊢
      generalize mayB on bid sd (a : Int) fl = mb at HM ⊢
      obtain ⟨rn, rb⟩ := r
      have hg0 := Lib.hid (And.intro hpr hq)
      clear hs h1 h2 h3 hpr hq hval hp hg
      rcases hhead with ⟨rfl, b1, b2⟩ | ⟨rfl, hpz⟩
      all_goals
        (first | (have HPP := Lib.hid (HP.out hpz); clear hpz) | skip)
        rcases (show rb = false ∨ (rb = true ∧ mb = true) ∨ (rb = true ∧ mb = false) by cases rb <;> cases mb <;> simp) with rfl | ⟨rfl, rfl⟩ | ⟨rfl, rfl⟩
        all_goals
          go_enter Try.func84, Try.ntmps84
          go_wp2_with fail
          (first
            | (refine (HPP.out _).mono ?_
               rintro e w1 ⟨rfl, rfl⟩
               go_wp2_with fail)
            | skip)
          refine (HQ.out _).mono ?_
          rintro e w1 ⟨rfl, rfl⟩
          go_wp2_with fail
          refine (HN.out _).mono ?_
          rintro e w1 ⟨rfl, F1⟩
          have k1 := F1.cell
          go_wp2_with fail
          (first
            | (refine (HM.out _).mono ?_
               rintro e w2 ⟨rfl, F2⟩
               go_wp2_with fail)
            | skip)
          go_ret
          exact ⟨rfl, by with_reducible repeat (first | exact Fr.refl _ _ | assumption | apply Fr.drew | apply Fr.drewN | apply Fr.alloc | (apply Fr.step; assumption; (intro _ h; (first | exact h | (focus (simp_all; done))))) | (apply Fr.setIn; (first | exact List.mem_cons_self | exact List.mem_cons_of_mem _ List.mem_cons_self | exact List.mem_cons_of_mem _ (List.mem_cons_of_mem _ List.mem_cons_self) | exact List.mem_cons_of_mem _ (List.mem_cons_of_mem _ (List.mem_cons_of_mem _ List.mem_cons_self)))) | (apply Fr.setNew; (first | omega | (simp; omega))))⟩
    · have HQ := Lib.hid (fun w => refQty_any w qt)
      have HP := Lib.hid (fun (h : priceI pr g = 0) w => by have := refPrice_any w pr g hp hg; rw [h] at this; exact this)
      have hval : valuesI g on bid sd pr qt fl m = qtyI qt := by unfold valuesI; rw [if_pos h1, if_neg h2]
      rw [hval]
      generalize qtyI qt = z at h2 HQ ⊢
      have z1 : (z == 0) = false := by simpa using h2
      have z2 : (z != 0) = true := by simpa using h2
      clear hs h1 h2 hpr hval hp hg
      rcases hhead with ⟨rfl, b1, b2⟩ | ⟨rfl, hpz⟩
      all_goals
        (first | (have HPP := Lib.hid (HP.out hpz); clear hpz) | skip)
        go_enter Try.func84, Try.ntmps84
        go_wp2_with fail
        (first
          | (refine (HPP.out _).mono ?_
             rintro e w1 ⟨rfl, rfl⟩
             go_wp2_with fail)
          | skip)
        refine (HQ.out _).mono ?_
        rintro e w1 ⟨rfl, rfl⟩
        go_wp2_with fail
        go_ret
        exact ⟨rfl, by with_reducible repeat (first | exact Fr.refl _ _ | assumption | apply Fr.drew | apply Fr.drewN | apply Fr.alloc | (apply Fr.step; assumption; (intro _ h; (first | exact h | (focus (simp_all; done))))) | (apply Fr.setIn; (first | exact List.mem_cons_self | exact List.mem_cons_of_mem _ List.mem_cons_self | exact List.mem_cons_of_mem _ (List.mem_cons_of_mem _ List.mem_cons_self) | exact List.mem_cons_of_mem _ (List.mem_cons_of_mem _ (List.mem_cons_of_mem _ List.mem_cons_self)))) | (apply Fr.setNew; (first | omega | (simp; omega))))⟩
  · have hval : valuesI g on bid sd pr qt fl m = v1I m pr g := by unfold valuesI; rw [if_neg h1]
    rw [hval]
    have HP := Lib.hid (fun w => refPrice_any w pr g hp hg)
    cases m with
    | true =>
      have b0 : pr ≠ 0 := fun c => h1 (by simp [v1I, c])
      have b1 : (pr == 0) = false := by simpa using b0
      have b2 : (pr != 0) = true := by simpa using b0
      have e : v1I true pr g = 9 := by simp [v1I, b1]
      rw [e]
      clear hs h1 hval hp hg b0 e
      go_enter Try.func84, Try.ntmps84
      go_wp2_with fail
      go_ret
      exact ⟨rfl, by with_reducible repeat (first | exact Fr.refl _ _ | assumption | apply Fr.drew | apply Fr.drewN | apply Fr.alloc | (apply Fr.step; assumption; (intro _ h; (first | exact h | (focus (simp_all; done))))) | (apply Fr.setIn; (first | exact List.mem_cons_self | exact List.mem_cons_of_mem _ List.mem_cons_self | exact List.mem_cons_of_mem _ (List.mem_cons_of_mem _ List.mem_cons_self) | exact List.mem_cons_of_mem _ (List.mem_cons_of_mem _ (List.mem_cons_of_mem _ List.mem_cons_self)))) | (apply Fr.setNew; (first | omega | (simp; omega))))⟩
    | false =>
      have e : v1I false pr g = priceI pr g := by simp [v1I]
      rw [e] at h1 ⊢
      generalize priceI pr g = z at h1 HP ⊢
      have z1 : (z == 0) = false := by simpa using h1
      have z2 : (z != 0) = true := by simpa using h1
      clear hs h1 hval hp hg e
      go_enter Try.func84, Try.ntmps84
      go_wp2_with fail
      refine (HP.out _).mono ?_
      rintro e w1 ⟨rfl, rfl⟩
      go_wp2_with fail
      go_ret
      exact ⟨rfl, by with_reducible repeat (first | exact Fr.refl _ _ | assumption | apply Fr.drew | apply Fr.drewN | apply Fr.alloc | (apply Fr.step; assumption; (intro _ h; (first | exact h | (focus (simp_all; done))))) | (apply Fr.setIn; (first | exact List.mem_cons_self | exact List.mem_cons_of_mem _ List.mem_cons_self | exact List.mem_cons_of_mem _ (List.mem_cons_of_mem _ List.mem_cons_self) | exact List.mem_cons_of_mem _ (List.mem_cons_of_mem _ (List.mem_cons_of_mem _ List.mem_cons_self)))) | (apply Fr.setNew; (first | omega | (simp; omega))))⟩
end Go.Proofs.Ytgddmkgmpibpgaa
