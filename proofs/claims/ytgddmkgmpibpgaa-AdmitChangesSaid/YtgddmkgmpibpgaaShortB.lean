/- Package short and its reference, walked: Trips; the reference's Covers, May, Least. -/
import Derived.Test.YtgddmkgmpibpgaaShort
import Derived.Test.YtgddmkgmpibpgaaFixB
namespace Go.Proofs.Ytgddmkgmpibpgaa
set_option linter.unusedVariables false
set_option linter.unusedSimpArgs false
open Go.RowKit

theorem priced_any (w : World) (p : Int) (hp : In64 p) :
    Calls Try.prog 63 #[.int .i64 p] w fun e w' => e = .returned (.bool (pricedB p)) ∧ w = w' := by
  have h := priceI_one p
  have H := Lib.hid h
  clear h
  go_enter Try.func63, Try.ntmps63
  go_wp2_with fail
  refine (price_any _ p 1 hp ⟨by omega, by omega⟩).mono ?_
  rintro e w1 ⟨rfl, rfl⟩
  go_wp2_with fail
  go_ret
  exact ⟨ret_bool H.out, rfl⟩

theorem refPriced_any (w : World) (p : Int) :
    Calls Try.prog 65 #[.int .i64 p] w fun e w' => e = .returned (.bool (pricedB p)) ∧ w = w' := by
  go_enter Try.func65, Try.ntmps65
  go_wp2_with fail
  all_goals
    go_ret
    refine ⟨ret_bool ?_, rfl⟩
    unfold pricedB
    simp
    try omega

def tripsB (sh first price : Int) : Bool := decide (1 ≤ sh) && decide (sh < 10000) && pricedB first && pricedB price && decide (price * 10000 ≤ first * (10000 - sh))

set_option maxHeartbeats 1000000 in
theorem trips_any (w : World) (a0 a1 a2 a3 a4 a5 a6 a7 a8 a9 a10 a11 a12 a13 a14 sh first price : Int) (hf : In64 first) (hp : In64 price) :
    Calls Try.prog 18 #[.agg #[.int .i64 a0, .int .i64 a1, .int .i64 a2, .int .i64 a3, .int .i64 a4, .int .i64 a5, .int .i64 a6, .int .i64 a7, .int .i64 a8, .int .i64 a9, .int .i64 a10, .int .i64 a11, .int .i64 a12, .int .i64 a13, .int .i64 a14, .int .i64 sh], .int .i64 first, .int .i64 price] w
      fun e w' => e = .returned (.bool (tripsB sh first price)) ∧ Fr [] w w' := by
  have HF := Lib.hid hf
  have HP := Lib.hid hp
  clear hf hp
  by_cases c : sh < 1 ∨ 10000 ≤ sh
  · have h : tripsB sh first price = false := by unfold tripsB; rcases c with c | c <;> simp <;> omega
    rw [h]; clear h
    rcases c with c | c
    all_goals
      go_enter Try.func18, Try.ntmps18
      go_wp2_with fail
      go_ret
      refine ⟨rfl, ?_⟩
      with_reducible repeat (first | exact Fr.refl _ _ | assumption | apply Fr.drew | apply Fr.drewN | apply Fr.alloc | (apply Fr.step; assumption; (intro _ h; (first | exact h | (focus (simp_all; done))))) | (apply Fr.setIn; (first | exact List.mem_cons_self | exact List.mem_cons_of_mem _ List.mem_cons_self | exact List.mem_cons_of_mem _ (List.mem_cons_of_mem _ List.mem_cons_self) | exact List.mem_cons_of_mem _ (List.mem_cons_of_mem _ (List.mem_cons_of_mem _ List.mem_cons_self)))) | (apply Fr.setNew; (first | omega | (simp; omega))))
  · have c1 : 1 ≤ sh := by omega
    have c2 : sh < 10000 := by omega
    clear c
    cases c3 : pricedB first with
    | false =>
      have h : tripsB sh first price = false := by unfold tripsB; simp [c3]
      rw [h]; clear h
      have H3 := Lib.hid c3
      clear c3
      go_enter Try.func18, Try.ntmps18
      go_wp2_with fail
      refine (priced_any _ _ HF.out).mono ?_
      rw [H3.out]
      rintro e w1 ⟨rfl, rfl⟩
      go_wp2_with fail
      go_ret
      refine ⟨rfl, ?_⟩
      with_reducible repeat (first | exact Fr.refl _ _ | assumption | apply Fr.drew | apply Fr.drewN | apply Fr.alloc | (apply Fr.step; assumption; (intro _ h; (first | exact h | (focus (simp_all; done))))) | (apply Fr.setIn; (first | exact List.mem_cons_self | exact List.mem_cons_of_mem _ List.mem_cons_self | exact List.mem_cons_of_mem _ (List.mem_cons_of_mem _ List.mem_cons_self) | exact List.mem_cons_of_mem _ (List.mem_cons_of_mem _ (List.mem_cons_of_mem _ List.mem_cons_self)))) | (apply Fr.setNew; (first | omega | (simp; omega))))
    | true =>
      cases c4 : pricedB price with
      | false =>
        have h : tripsB sh first price = false := by unfold tripsB; simp [c4]
        rw [h]; clear h
        have H3 := Lib.hid c3
        have H4 := Lib.hid c4
        clear c3 c4
        go_enter Try.func18, Try.ntmps18
        go_wp2_with fail
        refine (priced_any _ _ HF.out).mono ?_
        rw [H3.out]
        rintro e w1 ⟨rfl, rfl⟩
        go_wp2_with fail
        refine (priced_any _ _ HP.out).mono ?_
        rw [H4.out]
        rintro e w1 ⟨rfl, rfl⟩
        go_wp2_with fail
        go_ret
        refine ⟨rfl, ?_⟩
        with_reducible repeat (first | exact Fr.refl _ _ | assumption | apply Fr.drew | apply Fr.drewN | apply Fr.alloc | (apply Fr.step; assumption; (intro _ h; (first | exact h | (focus (simp_all; done))))) | (apply Fr.setIn; (first | exact List.mem_cons_self | exact List.mem_cons_of_mem _ List.mem_cons_self | exact List.mem_cons_of_mem _ (List.mem_cons_of_mem _ List.mem_cons_self) | exact List.mem_cons_of_mem _ (List.mem_cons_of_mem _ (List.mem_cons_of_mem _ List.mem_cons_self)))) | (apply Fr.setNew; (first | omega | (simp; omega))))
      | true =>
        have h : tripsB sh first price = decide (price * 10000 ≤ first * (10000 - sh)) := by unfold tripsB; simp [c3, c4, c1, c2]
        rw [h]; clear h
        have f1 : 1 ≤ first ∧ first ≤ 1099511627776 := by unfold pricedB at c3; simpa using c3
        have f2 : 1 ≤ price ∧ price ≤ 1099511627776 := by unfold pricedB at c4; simpa using c4
        have f3 : 0 ≤ first * (10000 - sh) := Int.mul_nonneg (by omega) (by omega)
        have f4 : first * (10000 - sh) ≤ 1099511627776 * 10000 := Int.mul_le_mul f1.2 (by omega) (by omega) (by omega)
        have H3 := Lib.hid c3
        have H4 := Lib.hid c4
        clear c3 c4
        go_enter Try.func18, Try.ntmps18
        go_wp2_with fail
        refine (priced_any _ _ HF.out).mono ?_
        rw [H3.out]
        rintro e w1 ⟨rfl, rfl⟩
        go_wp2_with fail
        refine (priced_any _ _ HP.out).mono ?_
        rw [H4.out]
        rintro e w1 ⟨rfl, rfl⟩
        go_wp2_with fail
        go_ret
        refine ⟨rfl, ?_⟩
        with_reducible repeat (first | exact Fr.refl _ _ | assumption | apply Fr.drew | apply Fr.drewN | apply Fr.alloc | (apply Fr.step; assumption; (intro _ h; (first | exact h | (focus (simp_all; done))))) | (apply Fr.setIn; (first | exact List.mem_cons_self | exact List.mem_cons_of_mem _ List.mem_cons_self | exact List.mem_cons_of_mem _ (List.mem_cons_of_mem _ List.mem_cons_self) | exact List.mem_cons_of_mem _ (List.mem_cons_of_mem _ (List.mem_cons_of_mem _ List.mem_cons_self)))) | (apply Fr.setNew; (first | omega | (simp; omega))))

set_option maxHeartbeats 1000000 in
theorem refTrips_any (w : World) (a0 a1 a2 a3 a4 a5 a6 a7 a8 a9 a10 a11 a12 a13 a14 sh first price : Int) :
    Calls Try.prog 19 #[.agg #[.int .i64 a0, .int .i64 a1, .int .i64 a2, .int .i64 a3, .int .i64 a4, .int .i64 a5, .int .i64 a6, .int .i64 a7, .int .i64 a8, .int .i64 a9, .int .i64 a10, .int .i64 a11, .int .i64 a12, .int .i64 a13, .int .i64 a14, .int .i64 sh], .int .i64 first, .int .i64 price] w
      fun e w' => e = .returned (.bool (tripsB sh first price)) ∧ Fr [] w w' := by
  by_cases c : sh < 1 ∨ 10000 ≤ sh
  · have h : tripsB sh first price = false := by unfold tripsB; rcases c with c | c <;> simp <;> omega
    rw [h]; clear h
    rcases c with c | c
    all_goals
      go_enter Try.func19, Try.ntmps19
      go_wp2_with fail
      go_ret
      refine ⟨rfl, ?_⟩
      with_reducible repeat (first | exact Fr.refl _ _ | assumption | apply Fr.drew | apply Fr.drewN | apply Fr.alloc | (apply Fr.step; assumption; (intro _ h; (first | exact h | (focus (simp_all; done))))) | (apply Fr.setIn; (first | exact List.mem_cons_self | exact List.mem_cons_of_mem _ List.mem_cons_self | exact List.mem_cons_of_mem _ (List.mem_cons_of_mem _ List.mem_cons_self) | exact List.mem_cons_of_mem _ (List.mem_cons_of_mem _ (List.mem_cons_of_mem _ List.mem_cons_self)))) | (apply Fr.setNew; (first | omega | (simp; omega))))
  · have c1 : 1 ≤ sh := by omega
    have c2 : sh < 10000 := by omega
    clear c
    cases c3 : pricedB first with
    | false =>
      have h : tripsB sh first price = false := by unfold tripsB; simp [c3]
      rw [h]; clear h
      have H3 := Lib.hid c3
      clear c3
      go_enter Try.func19, Try.ntmps19
      go_wp2_with fail
      refine (refPriced_any _ _).mono ?_
      rw [H3.out]
      rintro e w1 ⟨rfl, rfl⟩
      go_wp2_with fail
      go_ret
      refine ⟨rfl, ?_⟩
      with_reducible repeat (first | exact Fr.refl _ _ | assumption | apply Fr.drew | apply Fr.drewN | apply Fr.alloc | (apply Fr.step; assumption; (intro _ h; (first | exact h | (focus (simp_all; done))))) | (apply Fr.setIn; (first | exact List.mem_cons_self | exact List.mem_cons_of_mem _ List.mem_cons_self | exact List.mem_cons_of_mem _ (List.mem_cons_of_mem _ List.mem_cons_self) | exact List.mem_cons_of_mem _ (List.mem_cons_of_mem _ (List.mem_cons_of_mem _ List.mem_cons_self)))) | (apply Fr.setNew; (first | omega | (simp; omega))))
    | true =>
      cases c4 : pricedB price with
      | false =>
        have h : tripsB sh first price = false := by unfold tripsB; simp [c4]
        rw [h]; clear h
        have H3 := Lib.hid c3
        have H4 := Lib.hid c4
        clear c3 c4
        go_enter Try.func19, Try.ntmps19
        go_wp2_with fail
        refine (refPriced_any _ _).mono ?_
        rw [H3.out]
        rintro e w1 ⟨rfl, rfl⟩
        go_wp2_with fail
        refine (refPriced_any _ _).mono ?_
        rw [H4.out]
        rintro e w1 ⟨rfl, rfl⟩
        go_wp2_with fail
        go_ret
        refine ⟨rfl, ?_⟩
        with_reducible repeat (first | exact Fr.refl _ _ | assumption | apply Fr.drew | apply Fr.drewN | apply Fr.alloc | (apply Fr.step; assumption; (intro _ h; (first | exact h | (focus (simp_all; done))))) | (apply Fr.setIn; (first | exact List.mem_cons_self | exact List.mem_cons_of_mem _ List.mem_cons_self | exact List.mem_cons_of_mem _ (List.mem_cons_of_mem _ List.mem_cons_self) | exact List.mem_cons_of_mem _ (List.mem_cons_of_mem _ (List.mem_cons_of_mem _ List.mem_cons_self)))) | (apply Fr.setNew; (first | omega | (simp; omega))))
      | true =>
        have h : tripsB sh first price = decide (price * 10000 ≤ first * (10000 - sh)) := by unfold tripsB; simp [c3, c4, c1, c2]
        rw [h]; clear h
        have f1 : 1 ≤ first ∧ first ≤ 1099511627776 := by unfold pricedB at c3; simpa using c3
        have f2 : 1 ≤ price ∧ price ≤ 1099511627776 := by unfold pricedB at c4; simpa using c4
        have f3 : 0 ≤ first * (10000 - sh) := Int.mul_nonneg (by omega) (by omega)
        have f4 : first * (10000 - sh) ≤ 1099511627776 * 10000 := Int.mul_le_mul f1.2 (by omega) (by omega) (by omega)
        have H3 := Lib.hid c3
        have H4 := Lib.hid c4
        clear c3 c4
        go_enter Try.func19, Try.ntmps19
        go_wp2_with fail
        refine (refPriced_any _ _).mono ?_
        rw [H3.out]
        rintro e w1 ⟨rfl, rfl⟩
        go_wp2_with fail
        refine (refPriced_any _ _).mono ?_
        rw [H4.out]
        rintro e w1 ⟨rfl, rfl⟩
        go_wp2_with fail
        go_ret
        refine ⟨rfl, ?_⟩
        with_reducible repeat (first | exact Fr.refl _ _ | assumption | apply Fr.drew | apply Fr.drewN | apply Fr.alloc | (apply Fr.step; assumption; (intro _ h; (first | exact h | (focus (simp_all; done))))) | (apply Fr.setIn; (first | exact List.mem_cons_self | exact List.mem_cons_of_mem _ List.mem_cons_self | exact List.mem_cons_of_mem _ (List.mem_cons_of_mem _ List.mem_cons_self) | exact List.mem_cons_of_mem _ (List.mem_cons_of_mem _ (List.mem_cons_of_mem _ List.mem_cons_self)))) | (apply Fr.setNew; (first | omega | (simp; omega))))

theorem refCovers_any (w : World) (id ow sd pr qt fl sq : Int) :
    Calls Try.prog 21 #[.agg #[.int .i64 id, .int .i64 ow, .int .i64 sd, .int .i64 pr, .int .i64 qt, .int .i64 fl, .int .i64 sq]] w fun e w' => e = .returned (.bool (coversB sd fl)) ∧ Fr [] w w' := by
  go_enter Try.func21, Try.ntmps21
  go_wp2_with fail
  all_goals
    go_ret
    refine ⟨ret_bool ?_, ?_⟩
    · simp only [coversB, and1, and2, and3] at *
      rw [Bool.eq_iff_iff]
      simp
      try omega
    · with_reducible repeat (first | exact Fr.refl _ _ | assumption | apply Fr.drew | apply Fr.drewN | apply Fr.alloc | (apply Fr.step; assumption; (intro _ h; (first | exact h | (focus (simp_all; done))))) | (apply Fr.setIn; (first | exact List.mem_cons_self | exact List.mem_cons_of_mem _ List.mem_cons_self | exact List.mem_cons_of_mem _ (List.mem_cons_of_mem _ List.mem_cons_self) | exact List.mem_cons_of_mem _ (List.mem_cons_of_mem _ (List.mem_cons_of_mem _ List.mem_cons_self)))) | (apply Fr.setNew; (first | omega | (simp; omega))))

theorem refMay_any (w : World) (on : Bool) (bid id ow sd pr qt fl sq : Int) :
    Calls Try.prog 22 #[.agg #[.bool on, .int .i64 bid], .agg #[.int .i64 id, .int .i64 ow, .int .i64 sd, .int .i64 pr, .int .i64 qt, .int .i64 fl, .int .i64 sq]] w fun e w' => e = .returned (.bool (mayB on bid sd pr fl)) ∧ Fr [] w w' := by
  cases on with
  | false =>
    go_enter Try.func22, Try.ntmps22
    go_wp2
    go_ret
    refine ⟨rfl, ?_⟩
    with_reducible repeat (first | exact Fr.refl _ _ | assumption | apply Fr.drew | apply Fr.drewN | apply Fr.alloc | (apply Fr.step; assumption; (intro _ h; (first | exact h | (focus (simp_all; done))))) | (apply Fr.setIn; (first | exact List.mem_cons_self | exact List.mem_cons_of_mem _ List.mem_cons_self | exact List.mem_cons_of_mem _ (List.mem_cons_of_mem _ List.mem_cons_self) | exact List.mem_cons_of_mem _ (List.mem_cons_of_mem _ (List.mem_cons_of_mem _ List.mem_cons_self)))) | (apply Fr.setNew; (first | omega | (simp; omega))))
  | true =>
    cases hc : coversB sd fl with
    | false =>
      have HC := Lib.hid hc
      clear hc
      go_enter Try.func22, Try.ntmps22
      go_wp2_with fail
      refine (refCovers_any _ _ _ _ _ _ _ _).mono ?_
      rw [HC.out]
      rintro e w1 ⟨rfl, hf⟩
      go_wp2
      go_ret
      refine ⟨ret_bool (by simp [mayB, HC.out]), ?_⟩
      with_reducible repeat (first | exact Fr.refl _ _ | assumption | apply Fr.drew | apply Fr.drewN | apply Fr.alloc | (apply Fr.step; assumption; (intro _ h; (first | exact h | (focus (simp_all; done))))) | (apply Fr.setIn; (first | exact List.mem_cons_self | exact List.mem_cons_of_mem _ List.mem_cons_self | exact List.mem_cons_of_mem _ (List.mem_cons_of_mem _ List.mem_cons_self) | exact List.mem_cons_of_mem _ (List.mem_cons_of_mem _ (List.mem_cons_of_mem _ List.mem_cons_self)))) | (apply Fr.setNew; (first | omega | (simp; omega))))
    | true =>
      have HC := Lib.hid hc
      clear hc
      go_enter Try.func22, Try.ntmps22
      go_wp2_with fail
      refine (refCovers_any _ _ _ _ _ _ _ _).mono ?_
      rw [HC.out]
      rintro e w1 ⟨rfl, hf⟩
      have hc := hf.cell
      go_wp2
      go_ret
      refine ⟨ret_bool (by simp [mayB, HC.out]), ?_⟩
      with_reducible repeat (first | exact Fr.refl _ _ | assumption | apply Fr.drew | apply Fr.drewN | apply Fr.alloc | (apply Fr.step; assumption; (intro _ h; (first | exact h | (focus (simp_all; done))))) | (apply Fr.setIn; (first | exact List.mem_cons_self | exact List.mem_cons_of_mem _ List.mem_cons_self | exact List.mem_cons_of_mem _ (List.mem_cons_of_mem _ List.mem_cons_self) | exact List.mem_cons_of_mem _ (List.mem_cons_of_mem _ (List.mem_cons_of_mem _ List.mem_cons_self)))) | (apply Fr.setNew; (first | omega | (simp; omega))))

theorem leastI_ref (bid g : Int) (h0 : 0 ≤ bid) (h1 : bid < 1099511627776) (g1 : 1 ≤ g) (g2 : g ≤ 1099511627776) : leastI true bid g = if 1099511627776 < bid - bid % g + g then (0, false) else (bid - bid % g + g, true) := by
  have n1 : ¬ (true = false ∨ bid < 0 ∨ 1099511627776 < bid ∨ 1099511627776 < g) := by simp; omega
  have n2 : ¬ (bid + 1 < 0 ∨ g < 1) := by omega
  unfold leastI
  rw [if_neg n1]
  unfold upI
  rw [if_neg n2]
  obtain ⟨d1, d2, d3⟩ := downI_bd (p := bid + 1) (by omega) g1
  have e1 := Int.emod_add_mul_ediv bid g
  have l := Int.emod_nonneg bid (show g ≠ 0 by omega)
  have u := Int.emod_lt_of_pos bid (show 0 < g by omega)
  have m : g * (bid / g) = bid / g * g := Int.mul_comm _ _
  by_cases e : (bid + 1) / g * g = bid + 1
  · rw [if_pos e]
    have k : bid % g = g - 1 := by
      have h2 : (bid + 1) % g = 0 := by rw [← e]; exact Int.mul_emod_left _ _
      have h3 := Int.emod_add_mul_ediv (bid + 1) g
      by_cases hlt : bid % g + 1 < g
      · have h4 : (bid + 1) % g = bid % g + 1 := by
          rw [← Int.emod_add_emod]
          exact Int.emod_eq_of_lt (by omega) hlt
        omega
      · omega
    rw [k]
    have : bid - (g - 1) + g = bid + 1 := by omega
    rw [this]
    by_cases f : 1099511627776 < bid + 1
    · have n3 : true = false ∨ 1099511627776 < bid + 1 := .inr f
      rw [if_pos n3, if_pos f]
    · have n3 : ¬ (true = false ∨ 1099511627776 < bid + 1) := by simp; omega
      rw [if_neg n3, if_neg f]
  · rw [if_neg e]
    have k : (bid + 1) / g * g = bid - bid % g := by
      have h3 := Int.emod_add_mul_ediv (bid + 1) g
      have h5 : g * ((bid + 1) / g) = (bid + 1) / g * g := Int.mul_comm _ _
      have h2 : bid % g + 1 < g := by
        by_cases hlt : bid % g + 1 < g
        · exact hlt
        · exfalso
          have hk : bid % g = g - 1 := by omega
          apply e
          have : bid + 1 = (bid / g + 1) * g := by rw [Int.add_mul]; omega
          rw [this, Int.mul_ediv_cancel _ (by omega)]
      have h4 : (bid + 1) % g = bid % g + 1 := by
        rw [← Int.emod_add_emod]
        exact Int.emod_eq_of_lt (by omega) h2
      omega
    have n4 : In64 ((bid + 1) / g * g + g) := ⟨by omega, by omega⟩
    rw [if_pos n4, k]
    by_cases f : 1099511627776 < bid - bid % g + g
    · have n3 : true = false ∨ 1099511627776 < bid - bid % g + g := .inr f
      rw [if_pos n3, if_pos f]
    · have n3 : ¬ (true = false ∨ 1099511627776 < bid - bid % g + g) := by simp; omega
      rw [if_neg n3, if_neg f]

theorem leastI_no (on : Bool) (bid g : Int) (h : on = false ∨ bid < 0 ∨ 1099511627776 ≤ bid ∨ g < 1 ∨ 1099511627776 < g) (hb : In64 bid) (hg : In64 g) : leastI on bid g = (0, false) := by
  have f := least_facts on bid g hb hg
  rcases hr : leastI on bid g with ⟨q, is⟩
  rw [hr] at f
  cases is with
  | false => have h0 : q = 0 := f.1 rfl
             rw [h0]
  | true =>
    obtain ⟨h1, h2, h3, h4, h5, h6, h7, h8⟩ := f.2 rfl
    dsimp only at h5 h6 h7 h8
    rcases h with h | h | h | h | h
    · rw [h] at h1; cases h1
    all_goals omega

theorem refLeast_any (w : World) (on : Bool) (bid g a1 a2 a3 a4 a5 a6 a7 a8 a9 a10 a11 a12 a13 a14 a15 : Int) (hb : In64 bid) (hg : In64 g) :
    Calls Try.prog 17 #[.agg #[.bool on, .int .i64 bid], .agg #[.int .i64 g, .int .i64 a1, .int .i64 a2, .int .i64 a3, .int .i64 a4, .int .i64 a5, .int .i64 a6, .int .i64 a7, .int .i64 a8, .int .i64 a9, .int .i64 a10, .int .i64 a11, .int .i64 a12, .int .i64 a13, .int .i64 a14, .int .i64 a15]] w
      fun e w' => e = .returned (.tuple #[.int .i64 (leastI on bid g).1, .bool (leastI on bid g).2]) ∧ Fr [] w w' := by
  by_cases c : on = false ∨ bid < 0 ∨ 1099511627776 ≤ bid ∨ g < 1 ∨ 1099511627776 < g
  · rw [leastI_no on bid g c hb hg]
    have h' : on = false ∨ (on = true ∧ bid < 0) ∨ (on = true ∧ 0 ≤ bid ∧ 1099511627776 ≤ bid) ∨ (on = true ∧ 0 ≤ bid ∧ bid < 1099511627776 ∧ g < 1) ∨ (on = true ∧ 0 ≤ bid ∧ bid < 1099511627776 ∧ 1 ≤ g ∧ 1099511627776 < g) := by
      cases on
      · exact .inl rfl
      · simp only [true_and] at c ⊢
        simp only [reduceCtorEq, false_or] at c ⊢
        omega
    clear c hb hg
    rcases h' with rfl | ⟨rfl, c⟩ | ⟨rfl, c⟩ | ⟨rfl, c⟩ | ⟨rfl, c⟩
    all_goals
      go_enter Try.func17, Try.ntmps17
      go_wp2_with fail
      go_ret2
      refine ⟨rfl, ?_⟩
      with_reducible repeat (first | exact Fr.refl _ _ | assumption | apply Fr.drew | apply Fr.drewN | apply Fr.alloc | (apply Fr.step; assumption; (intro _ h; (first | exact h | (focus (simp_all; done))))) | (apply Fr.setIn; (first | exact List.mem_cons_self | exact List.mem_cons_of_mem _ List.mem_cons_self | exact List.mem_cons_of_mem _ (List.mem_cons_of_mem _ List.mem_cons_self) | exact List.mem_cons_of_mem _ (List.mem_cons_of_mem _ (List.mem_cons_of_mem _ List.mem_cons_self)))) | (apply Fr.setNew; (first | omega | (simp; omega))))
  · obtain rfl : on = true := by cases on <;> simp_all
    have c1 : 0 ≤ bid := by omega
    have c2 : bid < 1099511627776 := by omega
    have c3 : 1 ≤ g := by omega
    have c4 : g ≤ 1099511627776 := by omega
    rw [leastI_ref bid g c1 c2 c3 c4]
    have l := Int.emod_nonneg bid (show g ≠ 0 by omega)
    have u := Int.emod_lt_of_pos bid (show 0 < g by omega)
    have hz : ¬ g = 0 := by omega
    have hmod : bid.tmod g = bid % g := Int.tmod_eq_emod_of_nonneg c1
    have hw1 : IntKind.i64.wrap (bid - bid % g) = bid - bid % g := IntWalk.i64_in _ (by omega)
    have hw2 : IntKind.i64.wrap (bid - bid % g + g) = bid - bid % g + g := IntWalk.i64_in _ (by omega)
    clear hb hg c
    by_cases c5 : 1099511627776 < bid - bid % g + g
    · rw [if_pos c5]
      go_enter Try.func17, Try.ntmps17
      go_wp2_with fail
      go_quiet (fail)
      go_wp2_with fail
      go_ret2
      refine ⟨rfl, ?_⟩
      with_reducible repeat (first | exact Fr.refl _ _ | assumption | apply Fr.drew | apply Fr.drewN | apply Fr.alloc | (apply Fr.step; assumption; (intro _ h; (first | exact h | (focus (simp_all; done))))) | (apply Fr.setIn; (first | exact List.mem_cons_self | exact List.mem_cons_of_mem _ List.mem_cons_self | exact List.mem_cons_of_mem _ (List.mem_cons_of_mem _ List.mem_cons_self) | exact List.mem_cons_of_mem _ (List.mem_cons_of_mem _ (List.mem_cons_of_mem _ List.mem_cons_self)))) | (apply Fr.setNew; (first | omega | (simp; omega))))
    · rw [if_neg c5]
      go_enter Try.func17, Try.ntmps17
      go_wp2_with fail
      go_quiet (fail)
      go_wp2_with fail
      go_ret2
      refine ⟨rfl, ?_⟩
      with_reducible repeat (first | exact Fr.refl _ _ | assumption | apply Fr.drew | apply Fr.drewN | apply Fr.alloc | (apply Fr.step; assumption; (intro _ h; (first | exact h | (focus (simp_all; done))))) | (apply Fr.setIn; (first | exact List.mem_cons_self | exact List.mem_cons_of_mem _ List.mem_cons_self | exact List.mem_cons_of_mem _ (List.mem_cons_of_mem _ List.mem_cons_self) | exact List.mem_cons_of_mem _ (List.mem_cons_of_mem _ (List.mem_cons_of_mem _ List.mem_cons_self)))) | (apply Fr.setNew; (first | omega | (simp; omega))))
end Go.Proofs.Ytgddmkgmpibpgaa
