/- admit: the small ones, and the first question that has a fault, walked. -/
import Derived.Test.YtgddmkgmpibpgaaAdmA
import Derived.Test.YtgddmkgmpibpgaaMulD
import Derived.Test.YtgddmkgmpibpgaaShortB
namespace Go.Proofs.Ytgddmkgmpibpgaa
set_option linter.unusedVariables false
set_option linter.unusedSimpArgs false
open Go.RowKit

/-- The first fault of k questions from i on. -/
def firstI (v : Nat → Int) : Nat → Nat → Int
  | _, 0 => 0
  | i, n + 1 => if v i = 0 then firstI v (i + 1) n else v i

set_option maxHeartbeats 1000000 in
theorem first_any (w : World) (g m : Nat) (cs : Array Value) (id : Nat → Nat) (env : Nat → Array Value) (v : Nat → Int) (B : Blk w g 142 cs) (hm : m ≤ 10) (hc : ∀ i, i < m → cs[i]? = some (.func (.func (id i)) #[] (env i)))
    (he : ∀ i, i < m → ∀ args w, (callFunc (id i) args).run Try.prog w = .ok (.enter (id i) args) w)
    (hcall : ∀ i, i < m → (∀ j, j < i → v j = 0) → ∀ w', Fr [] w w' → Calls Try.prog (id i) (env i) w' fun e w'' => e = .returned (.int .i64 (v i)) ∧ Fr [] w' w'') :
    Calls Try.prog 76 #[.slice (some ⟨g, 0, none⟩) m m] w fun e w' => e = .returned (.int .i64 (firstI v 0 m)) ∧ Fr [] w w' := by
  have HC := Lib.hid hc
  have HE := Lib.hid he
  have HK := Lib.hid hcall
  have m1 : (m : Int) ≤ 10 := by omega
  clear hc he hcall
  go_enter Try.func76, Try.ntmps76
  go_wp2_with fail
  go_loopw [8] (fun s8 wr => ∃ i : Nat, i ≤ m ∧ s8 = .int .i64 i ∧ Fr [] w wr ∧ (∀ j, j < i → v j = 0) ∧ firstI v 0 m = firstI v i (m - i)) (fun s8 _ => m - (intOf s8).toNat)
  case atStart => exact ⟨0, by omega, rfl, Fr.refl _ _, fun j hj => by omega, rfl⟩
  case round =>
    obtain ⟨i, hi, rfl, F, hz, hf⟩ := hrel
    have HZ := Lib.hid hz
    have HF := Lib.hid hf
    clear hz hf
    have i0 : (0 : Int) ≤ (i : Int) := by omega
    by_cases hlt : i < m
    · have i1 : (i : Int) < (m : Int) := by omega
      have x : wr.cell? ⟨g, i, none⟩ = some (.func (.func (id i)) #[] (env i)) := ((Blk.via F (by simp) B).cell i).trans (HC.out i hlt)
      have hent := HE.out i hlt
      have HKi := Lib.hid (HK.out i hlt HZ.out wr F)
      have hstep : firstI v i (m - i) = if v i = 0 then firstI v (i + 1) (m - (i + 1)) else v i := by
        rw [show m - i = (m - (i + 1)) + 1 by omega]; rfl
      have HS := Lib.hid hstep
      clear hstep
      go_wp2_with fail
      refine HKi.out.mono ?_
      rintro e w1 ⟨rfl, F1⟩
      clear x hent
      by_cases hv : v i = 0
      · have HV := Lib.hid hv
        rw [hv]
        clear hv
        go_wp2_with fail
        go_roundw
        case rel =>
          refine ⟨i + 1, by omega, by simp, F.trans F1, fun j hj => ?_, by rw [HF.out, HS.out, if_pos HV.out]⟩
          rcases (show j < i ∨ j = i by omega) with h | rfl
          · exact HZ.out j h
          · exact HV.out
        case measure => simp [intOf]; omega
      · have hb : (v i == 0) = false := by simpa using hv
        have hb2 : (v i != 0) = true := by simpa using hv
        have HV := Lib.hid hv
        clear hv
        go_wp2_with fail
        go_ret
        exact ⟨ret_int (by rw [HF.out, HS.out, if_neg HV.out]), F.trans F1⟩
    · obtain rfl : m = i := by omega
      go_wp2_with fail
      go_ret
      exact ⟨ret_int (by rw [HF.out, Nat.sub_self]; rfl), F⟩

theorem unless_any (w : World) (b : Bool) (f : Int) :
    Calls Try.prog 78 #[.bool b, .int .i64 f] w fun e w' => e = .returned (.int .i64 (if b then 0 else f)) ∧ w = w' := by
  cases b
  all_goals
    go_enter Try.func78, Try.ntmps78
    go_wp2_with fail
    go_ret
    exact ⟨rfl, rfl⟩
def qtyI (q : Int) : Int := if inB q 1 4294967296 then 0 else 9
theorem qty1_any (w : World) (g : Nat) (q lo hi : Int) (B : Blk w g 2 #[.int .i64 q]) (b : Bool) (hb : inB q lo hi = b) :
    Calls Try.prog 113 #[.int .i64 lo, .int .i64 hi, .pointer (some ⟨g, 0, none⟩)] w fun e w' => e = .returned (.bool b) ∧ Fr [] w w' := by
  subst hb
  have c1 := B.cell
  by_cases c : lo ≤ q
  · have h : inB q lo hi = decide (q ≤ hi) := by unfold inB; simp [c]
    rw [h]
    clear h
    go_enter Try.func113, Try.ntmps113
    go_wp2_with fail
    go_ret
    exact ⟨rfl, Fr.refl _ _⟩
  · have h : inB q lo hi = false := by unfold inB; simp [c]
    rw [h]
    have h2 : decide (lo ≤ q) = false := by simpa using c
    clear h c
    go_enter Try.func113, Try.ntmps113
    go_wp2_with fail
    go_ret
    exact ⟨rfl, Fr.refl _ _⟩
theorem qty_any (w : World) (q : Int) :
    Calls Try.prog 101 #[.int .i64 q] w fun e w' => e = .returned (.int .i64 (qtyI q)) ∧ Fr [] w w' := by
  have hmf : ∀ (fn : Fn) (first cap : Array Value) (w : World), (Instr.makeFunc fn first cap).run Try.prog w = .ok (.func fn first cap) w := fun _ _ _ _ => rfl
  unfold qtyI
  generalize hb : inB q 1 4294967296 = b
  have HB := Lib.hid hb
  clear hb
  cases b
  all_goals
    go_enter Try.func101, Try.ntmps101
    go_wp2_with fail
    refine (qty1_any _ _ q 1 4294967296 (Blk.new _ _ _) _ HB.out).mono ?_
    rintro e w1 ⟨rfl, F1⟩
    go_wp2_with fail
    go_ret
    exact ⟨rfl, by with_reducible repeat (first | exact Fr.refl _ _ | assumption | apply Fr.drew | apply Fr.drewN | apply Fr.alloc | (apply Fr.step; assumption; (intro _ h; (first | exact h | (focus (simp_all; done))))) | (apply Fr.setIn; (first | exact List.mem_cons_self | exact List.mem_cons_of_mem _ List.mem_cons_self | exact List.mem_cons_of_mem _ (List.mem_cons_of_mem _ List.mem_cons_self) | exact List.mem_cons_of_mem _ (List.mem_cons_of_mem _ (List.mem_cons_of_mem _ List.mem_cons_self)))) | (apply Fr.setNew; (first | omega | (simp; omega))))⟩
theorem refQty_any (w : World) (q : Int) :
    Calls Try.prog 107 #[.int .i64 q] w fun e w' => e = .returned (.int .i64 (qtyI q)) ∧ w = w' := by
  rcases (show q < 1 ∨ (¬ q < 1 ∧ 4294967296 < q) ∨ (¬ q < 1 ∧ ¬ 4294967296 < q) by omega) with h | ⟨h, h2⟩ | ⟨h, h2⟩
  · have e : qtyI q = 9 := by unfold qtyI inB; rw [if_neg (by simp; omega)]
    rw [e]; clear e
    go_enter Try.func107, Try.ntmps107
    go_wp2_with fail
    go_ret
    exact ⟨rfl, rfl⟩
  · have e : qtyI q = 9 := by unfold qtyI inB; rw [if_neg (by simp; omega)]
    rw [e]; clear e
    go_enter Try.func107, Try.ntmps107
    go_wp2_with fail
    go_ret
    exact ⟨rfl, rfl⟩
  · have e : qtyI q = 0 := by unfold qtyI inB; rw [if_pos (by simp; omega)]
    rw [e]; clear e
    go_enter Try.func107, Try.ntmps107
    go_wp2_with fail
    go_ret
    exact ⟨rfl, rfl⟩
theorem refPrice_any (w : World) (p g : Int) (hp : In64 p) (hg : In64 g) :
    Calls Try.prog 106 #[.int .i64 p, .int .i64 g] w fun e w' => e = .returned (.int .i64 (priceI p g)) ∧ w = w' := by
  by_cases c1 : g < 1
  · have h : priceI p g = 1 := by unfold priceI; rw [if_pos c1]
    rw [h]; clear h hp hg
    go_enter Try.func106, Try.ntmps106
    go_wp2_with fail
    go_ret
    exact ⟨rfl, rfl⟩
  · by_cases c2 : p < 1 ∨ 1099511627776 < p
    · have h : priceI p g = 9 := by unfold priceI; rw [if_neg c1, if_pos c2]
      rw [h]; clear h hp hg
      rcases (show p < 1 ∨ (¬ p < 1 ∧ 1099511627776 < p) by omega) with c3 | ⟨c3, c4⟩
      all_goals
        clear c2
        go_enter Try.func106, Try.ntmps106
        go_wp2_with fail
        go_ret
        exact ⟨rfl, rfl⟩
    · have hd : downI p g = p / g * g := by unfold downI; rw [if_neg (by omega)]
      have h0 : 0 ≤ p := by omega
      have h1 : 1 ≤ g := by omega
      have h2 : p ≤ 1099511627776 := by omega
      have c3 : ¬ p < 1 := by omega
      have c4 : ¬ 1099511627776 < p := by omega
      have e1 := Int.emod_add_mul_ediv p g
      have e2 : g * (p / g) = p / g * g := Int.mul_comm _ _
      by_cases c5 : p % g = 0
      · have h : priceI p g = 0 := by unfold priceI; rw [if_neg c1, if_neg c2, hd, if_pos (by omega)]
        have hb : (p % g == 0) = true := by simpa using c5
        have hb2 : (p % g != 0) = false := by simpa using c5
        rw [h]; clear h hp hg c2 c5 e1 e2 hd
        go_enter Try.func106, Try.ntmps106
        go_wp2_with fail
        go_ret
        exact ⟨rfl, rfl⟩
      · have h : priceI p g = 8 := by unfold priceI; rw [if_neg c1, if_neg c2, hd, if_neg (by omega)]
        have hb : (p % g == 0) = false := by simpa using c5
        have hb2 : (p % g != 0) = true := by simpa using c5
        rw [h]; clear h hp hg c2 c5 e1 e2 hd
        go_enter Try.func106, Try.ntmps106
        go_wp2_with fail
        go_ret
        exact ⟨rfl, rfl⟩

theorem notional_any (w : World) (a b : Nat) (ha : a < 2 ^ 63) (hb : b < 2 ^ 63) :
    Calls Try.prog 103 #[.int .i64 (a : Int), .int .i64 (b : Int)] w fun e w' => e = .returned (.tuple #[.int .i64 (mulN (a * b)).1, .bool (mulN (a * b)).2]) ∧ Fr [] w w' := by
  have HM := Lib.hid (fun w => mul_any w a b ha hb)
  have a0 : ¬ (a : Int) < 0 := by omega
  have b0 : ¬ (b : Int) < 0 := by omega
  generalize mulN (a * b) = m at HM ⊢
  clear ha hb
  go_enter Try.func103, Try.ntmps103
  go_wp2_with fail
  refine (HM.out _).mono ?_
  rintro e w1 ⟨rfl, F1⟩
  go_wp2_with fail
  go_ret2
  exact ⟨rfl, F1⟩
theorem refNotional_any (w : World) (a b : Nat) (ha : a < 2 ^ 63) (hb : b < 2 ^ 63) :
    Calls Try.prog 108 #[.int .i64 (a : Int), .int .i64 (b : Int)] w fun e w' => e = .returned (.tuple #[.int .i64 (mulN (a * b)).1, .bool (mulN (a * b)).2]) ∧ Fr [] w w' := by
  have HM := Lib.hid (fun w => refMul_any w a b ha hb)
  have a0 : ¬ (a : Int) < 0 := by omega
  have b0 : ¬ (b : Int) < 0 := by omega
  generalize mulN (a * b) = m at HM ⊢
  clear ha hb
  go_enter Try.func108, Try.ntmps108
  go_wp2_with fail
  refine (HM.out _).mono ?_
  rintro e w1 ⟨rfl, F1⟩
  go_wp2_with fail
  go_ret2
  exact ⟨rfl, F1⟩

def matchesB (p : Int) : Bool := p == 2
def restsB (p : Int) : Bool := p == 1 || (p == 3 || p == 4)
theorem matches_any (w : World) (p : Int) : Calls Try.prog 40 #[.int .i64 p] w fun e w' => e = .returned (.bool (matchesB p)) ∧ w = w' := by
  go_enter Try.func40, Try.ntmps40
  go_wp2_with fail
  go_ret
  exact ⟨rfl, rfl⟩
theorem refMatches_any (w : World) (p : Int) : Calls Try.prog 41 #[.int .i64 p] w fun e w' => e = .returned (.bool (matchesB p)) ∧ w = w' := by
  go_enter Try.func41, Try.ntmps41
  go_wp2_with fail
  go_ret
  exact ⟨rfl, rfl⟩
theorem rests_cases (p : Int) : (p = 1 ∧ restsB p = true) ∨ (p = 3 ∧ restsB p = true) ∨ (p = 4 ∧ restsB p = true) ∨ ((p == 1) = false ∧ (p == 3) = false ∧ (p == 4) = false ∧ restsB p = false) := by
  unfold restsB
  by_cases h1 : p = 1
  · exact .inl ⟨h1, by simp [h1]⟩
  · by_cases h3 : p = 3
    · exact .inr (.inl ⟨h3, by simp [h3]⟩)
    · by_cases h4 : p = 4
      · exact .inr (.inr (.inl ⟨h4, by simp [h4]⟩))
      · exact .inr (.inr (.inr ⟨by simpa using h1, by simpa using h3, by simpa using h4, by simp [h1, h3, h4]⟩))
theorem rests_any (w : World) (p : Int) : Calls Try.prog 42 #[.int .i64 p] w fun e w' => e = .returned (.bool (restsB p)) ∧ w = w' := by
  rcases rests_cases p with ⟨rfl, h⟩ | ⟨rfl, h⟩ | ⟨rfl, h⟩ | ⟨h1, h3, h4, h⟩
  all_goals
    rw [h]
    clear h
    go_enter Try.func42, Try.ntmps42
    go_wp2_with fail
    go_ret
    exact ⟨rfl, rfl⟩
theorem refRests_any (w : World) (p : Int) : Calls Try.prog 43 #[.int .i64 p] w fun e w' => e = .returned (.bool (restsB p)) ∧ w = w' := by
  rcases rests_cases p with ⟨rfl, h⟩ | ⟨rfl, h⟩ | ⟨rfl, h⟩ | ⟨h1, h3, h4, h⟩
  all_goals
    rw [h]
    clear h
    go_enter Try.func43, Try.ntmps43
    go_wp2_with fail
    go_ret
    exact ⟨rfl, rfl⟩
theorem order_any (w : World) (k sy id ow sd ty pr qt fl sq : Int) :
    Calls Try.prog 38 #[.agg #[.int .i64 k, .int .i64 sy, .int .i64 id, .int .i64 ow, .int .i64 sd, .int .i64 ty, .int .i64 pr, .int .i64 qt, .int .i64 fl], .int .i64 sq] w fun e w' => e = .returned (.agg #[.int .i64 id, .int .i64 ow, .int .i64 sd, .int .i64 pr, .int .i64 qt, .int .i64 fl, .int .i64 sq]) ∧ Fr [] w w' := by
  go_enter Try.func38, Try.ntmps38
  go_wp2_with fail
  exact bodyPost_ret (v := .agg #[.int .i64 id, .int .i64 ow, .int .i64 sd, .int .i64 pr, .int .i64 qt, .int .i64 fl, .int .i64 sq]) (by simp [results, Try.results38, go_sem]) rfl ⟨rfl, by with_reducible repeat (first | exact Fr.refl _ _ | assumption | apply Fr.drew | apply Fr.drewN | apply Fr.alloc | (apply Fr.step; assumption; (intro _ h; (first | exact h | (focus (simp_all; done))))) | (apply Fr.setIn; (first | exact List.mem_cons_self | exact List.mem_cons_of_mem _ List.mem_cons_self | exact List.mem_cons_of_mem _ (List.mem_cons_of_mem _ List.mem_cons_self) | exact List.mem_cons_of_mem _ (List.mem_cons_of_mem _ (List.mem_cons_of_mem _ List.mem_cons_self)))) | (apply Fr.setNew; (first | omega | (simp; omega))))⟩
theorem refOrder_any (w : World) (k sy id ow sd ty pr qt fl sq : Int) :
    Calls Try.prog 39 #[.agg #[.int .i64 k, .int .i64 sy, .int .i64 id, .int .i64 ow, .int .i64 sd, .int .i64 ty, .int .i64 pr, .int .i64 qt, .int .i64 fl], .int .i64 sq] w fun e w' => e = .returned (.agg #[.int .i64 id, .int .i64 ow, .int .i64 sd, .int .i64 pr, .int .i64 qt, .int .i64 fl, .int .i64 sq]) ∧ Fr [] w w' := by
  go_enter Try.func39, Try.ntmps39
  go_wp2_with fail
  exact bodyPost_ret (v := .agg #[.int .i64 id, .int .i64 ow, .int .i64 sd, .int .i64 pr, .int .i64 qt, .int .i64 fl, .int .i64 sq]) (by simp [results, Try.results39, go_sem]) rfl ⟨rfl, by with_reducible repeat (first | exact Fr.refl _ _ | assumption | apply Fr.drew | apply Fr.drewN | apply Fr.alloc | (apply Fr.step; assumption; (intro _ h; (first | exact h | (focus (simp_all; done))))) | (apply Fr.setIn; (first | exact List.mem_cons_self | exact List.mem_cons_of_mem _ List.mem_cons_self | exact List.mem_cons_of_mem _ (List.mem_cons_of_mem _ List.mem_cons_self) | exact List.mem_cons_of_mem _ (List.mem_cons_of_mem _ (List.mem_cons_of_mem _ List.mem_cons_self)))) | (apply Fr.setNew; (first | omega | (simp; omega))))⟩
theorem own25_any (w : World) (on : Bool) (bid : Int) :
    Calls Try.prog 36 #[.agg #[.bool on, .int .i64 bid]] w fun e w' => e = .returned (.agg #[.bool on, .int .i64 bid]) ∧ Fr [] w w' := by
  go_enter Try.func36, Try.ntmps36
  go_wp2_with fail
  exact bodyPost_ret (v := .agg #[.bool on, .int .i64 bid]) (by simp [results, Try.results36, go_sem]) rfl ⟨rfl, by with_reducible repeat (first | exact Fr.refl _ _ | assumption | apply Fr.drew | apply Fr.drewN | apply Fr.alloc | (apply Fr.step; assumption; (intro _ h; (first | exact h | (focus (simp_all; done))))) | (apply Fr.setIn; (first | exact List.mem_cons_self | exact List.mem_cons_of_mem _ List.mem_cons_self | exact List.mem_cons_of_mem _ (List.mem_cons_of_mem _ List.mem_cons_self) | exact List.mem_cons_of_mem _ (List.mem_cons_of_mem _ (List.mem_cons_of_mem _ List.mem_cons_self)))) | (apply Fr.setNew; (first | omega | (simp; omega))))⟩
end Go.Proofs.Ytgddmkgmpibpgaa
