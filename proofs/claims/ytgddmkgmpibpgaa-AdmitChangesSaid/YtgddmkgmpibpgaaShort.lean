/- Package short, walked: which orders a restriction covers, and which may be. -/
import Derived.Test.YtgddmkgmpibpgaaProg
import Derived.Test.YtgddmkgmpibpgaaMem
import Derived.Test.YtgddmkgmpibpgaaFix
namespace Go.Proofs.Ytgddmkgmpibpgaa
set_option linter.unusedVariables false
set_option linter.unusedSimpArgs false
open Go.RowKit

def coversB (side flags : Int) : Bool := (side == 1) && (bits .and .i64 flags 3 == 1)
def mayB (on : Bool) (bid side price flags : Int) : Bool := !on || !coversB side flags || decide (bid < price)

theorem covers_any (w : World) (id ow sd pr qt fl sq : Int) :
    Calls Try.prog 20 #[.agg #[.int .i64 id, .int .i64 ow, .int .i64 sd, .int .i64 pr, .int .i64 qt, .int .i64 fl, .int .i64 sq]] w fun e w' => e = .returned (.bool (coversB sd fl)) ∧ Fr [] w w' := by
  go_enter Try.func20, Try.ntmps20
  go_wp2
  all_goals
    go_ret
    refine ⟨ret_bool ?_, ?_⟩
    · simp [coversB, *]
    · with_reducible repeat (first | exact Fr.refl _ _ | assumption | apply Fr.drew | apply Fr.drewN | apply Fr.alloc | (apply Fr.step; assumption; (intro _ h; (first | exact h | (focus (simp_all; done))))) | (apply Fr.setIn; (first | exact List.mem_cons_self | exact List.mem_cons_of_mem _ List.mem_cons_self | exact List.mem_cons_of_mem _ (List.mem_cons_of_mem _ List.mem_cons_self) | exact List.mem_cons_of_mem _ (List.mem_cons_of_mem _ (List.mem_cons_of_mem _ List.mem_cons_self)))) | (apply Fr.setNew; (first | omega | (simp; omega))))

theorem may_any (w : World) (on : Bool) (bid id ow sd pr qt fl sq : Int) :
    Calls Try.prog 16 #[.agg #[.bool on, .int .i64 bid], .agg #[.int .i64 id, .int .i64 ow, .int .i64 sd, .int .i64 pr, .int .i64 qt, .int .i64 fl, .int .i64 sq]] w fun e w' => e = .returned (.bool (mayB on bid sd pr fl)) ∧ Fr [] w w' := by
  cases on with
  | false =>
    go_enter Try.func16, Try.ntmps16
    go_wp2
    go_ret
    refine ⟨rfl, ?_⟩
    with_reducible repeat (first | exact Fr.refl _ _ | assumption | apply Fr.drew | apply Fr.drewN | apply Fr.alloc | (apply Fr.step; assumption; (intro _ h; (first | exact h | (focus (simp_all; done))))) | (apply Fr.setIn; (first | exact List.mem_cons_self | exact List.mem_cons_of_mem _ List.mem_cons_self | exact List.mem_cons_of_mem _ (List.mem_cons_of_mem _ List.mem_cons_self) | exact List.mem_cons_of_mem _ (List.mem_cons_of_mem _ (List.mem_cons_of_mem _ List.mem_cons_self)))) | (apply Fr.setNew; (first | omega | (simp; omega))))
  | true =>
    cases hc : coversB sd fl with
    | false =>
      have HC := Lib.hid hc
      clear hc
      go_enter Try.func16, Try.ntmps16
      go_wp2_with fail
      refine (covers_any _ _ _ _ _ _ _ _).mono ?_
      rw [HC.out]
      rintro e w1 ⟨rfl, hf⟩
      go_wp2
      go_ret
      refine ⟨ret_bool (by simp [mayB, HC.out]), ?_⟩
      with_reducible repeat (first | exact Fr.refl _ _ | assumption | apply Fr.drew | apply Fr.drewN | apply Fr.alloc | (apply Fr.step; assumption; (intro _ h; (first | exact h | (focus (simp_all; done))))) | (apply Fr.setIn; (first | exact List.mem_cons_self | exact List.mem_cons_of_mem _ List.mem_cons_self | exact List.mem_cons_of_mem _ (List.mem_cons_of_mem _ List.mem_cons_self) | exact List.mem_cons_of_mem _ (List.mem_cons_of_mem _ (List.mem_cons_of_mem _ List.mem_cons_self)))) | (apply Fr.setNew; (first | omega | (simp; omega))))
    | true =>
      have HC := Lib.hid hc
      clear hc
      go_enter Try.func16, Try.ntmps16
      go_wp2_with fail
      refine (covers_any _ _ _ _ _ _ _ _).mono ?_
      rw [HC.out]
      rintro e w1 ⟨rfl, hf⟩
      have hc := hf.cell
      go_wp2
      go_ret
      refine ⟨ret_bool (by simp [mayB, HC.out]), ?_⟩
      with_reducible repeat (first | exact Fr.refl _ _ | assumption | apply Fr.drew | apply Fr.drewN | apply Fr.alloc | (apply Fr.step; assumption; (intro _ h; (first | exact h | (focus (simp_all; done))))) | (apply Fr.setIn; (first | exact List.mem_cons_self | exact List.mem_cons_of_mem _ List.mem_cons_self | exact List.mem_cons_of_mem _ (List.mem_cons_of_mem _ List.mem_cons_self) | exact List.mem_cons_of_mem _ (List.mem_cons_of_mem _ (List.mem_cons_of_mem _ List.mem_cons_self)))) | (apply Fr.setNew; (first | omega | (simp; omega))))

theorem shortOwn_any (w : World) (on : Bool) (bid : Int) :
    Calls Try.prog 14 #[.agg #[.bool on, .int .i64 bid]] w fun e w' => e = .returned (.agg #[.bool on, .int .i64 bid]) ∧ Fr [] w w' := by
  go_enter Try.func14, Try.ntmps14
  go_wp2
  refine bodyPost_ret (v := .agg #[.bool on, .int .i64 bid]) (by simp [results, Try.results14, go_sem]) rfl ⟨rfl, ?_⟩
  with_reducible repeat (first | exact Fr.refl _ _ | assumption | apply Fr.drew | apply Fr.drewN | apply Fr.alloc | (apply Fr.step; assumption; (intro _ h; (first | exact h | (focus (simp_all; done))))) | (apply Fr.setIn; (first | exact List.mem_cons_self | exact List.mem_cons_of_mem _ List.mem_cons_self | exact List.mem_cons_of_mem _ (List.mem_cons_of_mem _ List.mem_cons_self) | exact List.mem_cons_of_mem _ (List.mem_cons_of_mem _ (List.mem_cons_of_mem _ List.mem_cons_self)))) | (apply Fr.setNew; (first | omega | (simp; omega))))

theorem shortAlive_any (w : World) :
    Calls Try.prog 15 #[] w fun e w' => e = .returned (.bool true) ∧ Fr [] w w' := by
  have b1 : bits .and .i64 1 3 = 1 := by kernel_rfl
  have a1 : mayB true 100 1 100 1 = false := by simp [mayB, coversB, b1]
  have a2 : mayB true 100 1 101 1 = true := by simp [mayB, coversB, b1]
  have a3 : coversB 1 1 = true := by simp [coversB, b1]
  clear b1
  go_enter Try.func15, Try.ntmps15
  go_wp2_with fail
  refine (may_any _ _ _ _ _ _ _ _ _ _).mono ?_
  rintro e w1 ⟨rfl, hf1⟩
  have B1 : Blk w1 w.heap.size _ _ := .via hf1 (by simp) (by with_reducible repeat (first | exact Blk.new _ _ _ | (apply Blk.newAt rfl; (first | (simp; done) | (simp; omega))) | assumption | exact trivial | apply Blk.drew | apply Blk.drewN | apply Blk.alloc | (apply Blk.off; (first | assumption | omega)) | (apply Blk.put; omega) | (apply Blk.put0; omega) | apply Blk.same))
  have B2 : Blk w1 (w.heap.size + 1) _ _ := .via hf1 (by simp) (by with_reducible repeat (first | exact Blk.new _ _ _ | (apply Blk.newAt rfl; (first | (simp; done) | (simp; omega))) | assumption | exact trivial | apply Blk.drew | apply Blk.drewN | apply Blk.alloc | (apply Blk.off; (first | assumption | omega)) | (apply Blk.put; omega) | (apply Blk.put0; omega) | apply Blk.same))
  have c1 := B1.cell
  have c2 := B2.cell
  have d2 := B2.frozen
  have s1 := B1.lt
  have s2 := B2.lt
  go_wp2_with fail
  refine (may_any _ _ _ _ _ _ _ _ _ _).mono ?_
  rintro e w2 ⟨rfl, hf2⟩
  clear c1 c2 d2
  have B3 : Blk w2 (w.heap.size + 1) _ _ := .via hf2 (by simp) (by with_reducible repeat (first | exact Blk.new _ _ _ | (apply Blk.newAt rfl; (first | (simp; done) | (simp; omega))) | assumption | exact trivial | apply Blk.drew | apply Blk.drewN | apply Blk.alloc | (apply Blk.off; (first | assumption | omega)) | (apply Blk.put; omega) | (apply Blk.put0; omega) | apply Blk.same))
  have c3 := B3.cell
  go_wp2_with fail
  refine (covers_any _ _ _ _ _ _ _ _).mono ?_
  rintro e w3 ⟨rfl, hf3⟩
  clear c3
  go_wp2_with fail
  go_ret
  refine ⟨rfl, ?_⟩
  with_reducible repeat (first | exact Fr.refl _ _ | assumption | apply Fr.drew | apply Fr.drewN | apply Fr.alloc | (apply Fr.step; assumption; (intro _ h; (first | exact h | (focus (simp_all; done))))) | (apply Fr.setIn; (first | exact List.mem_cons_self | exact List.mem_cons_of_mem _ List.mem_cons_self | exact List.mem_cons_of_mem _ (List.mem_cons_of_mem _ List.mem_cons_self) | exact List.mem_cons_of_mem _ (List.mem_cons_of_mem _ (List.mem_cons_of_mem _ List.mem_cons_self)))) | (apply Fr.setNew; (first | omega | (simp; omega))))

/-- What Least tells. -/
def leastI (on : Bool) (bid grid : Int) : Int × Bool :=
  if on = false ∨ bid < 0 ∨ 1099511627776 < bid ∨ 1099511627776 < grid then (0, false) else if (upI (bid + 1) grid).2 = false ∨ 1099511627776 < (upI (bid + 1) grid).1 then (0, false) else ((upI (bid + 1) grid).1, true)

theorem least_any (w : World) (on : Bool) (bid g a1 a2 a3 a4 a5 a6 a7 a8 a9 a10 a11 a12 a13 a14 a15 : Int) (hb : In64 bid) (hg : In64 g) :
    Calls Try.prog 13 #[.agg #[.bool on, .int .i64 bid], .agg #[.int .i64 g, .int .i64 a1, .int .i64 a2, .int .i64 a3, .int .i64 a4, .int .i64 a5, .int .i64 a6, .int .i64 a7, .int .i64 a8, .int .i64 a9, .int .i64 a10, .int .i64 a11, .int .i64 a12, .int .i64 a13, .int .i64 a14, .int .i64 a15]] w
      fun e w' => e = .returned (.tuple #[.int .i64 (leastI on bid g).1, .bool (leastI on bid g).2]) ∧ Fr [] w w' := by
  by_cases c : on = false ∨ bid < 0 ∨ 1099511627776 < bid ∨ 1099511627776 < g
  · have hl : leastI on bid g = (0, false) := by unfold leastI; rw [if_pos c]
    rw [hl]
    clear hl
    have h' : on = false ∨ (on = true ∧ bid < 0) ∨ (on = true ∧ 0 ≤ bid ∧ 1099511627776 < bid) ∨ (on = true ∧ 0 ≤ bid ∧ bid ≤ 1099511627776 ∧ 1099511627776 < g) := by
      cases on
      · exact .inl rfl
      · simp only [true_and] at c ⊢
        simp only [reduceCtorEq, false_or] at c ⊢
        omega
    clear c
    have HB := Lib.hid hb
    have HG := Lib.hid hg
    clear hb hg
    rcases h' with rfl | ⟨rfl, c⟩ | ⟨rfl, c⟩ | ⟨rfl, c⟩
    all_goals
      go_enter Try.func13, Try.ntmps13
      go_wp2_with fail
      go_ret2
      refine ⟨rfl, ?_⟩
      with_reducible repeat (first | exact Fr.refl _ _ | assumption | apply Fr.drew | apply Fr.drewN | apply Fr.alloc | (apply Fr.step; assumption; (intro _ h; (first | exact h | (focus (simp_all; done))))) | (apply Fr.setIn; (first | exact List.mem_cons_self | exact List.mem_cons_of_mem _ List.mem_cons_self | exact List.mem_cons_of_mem _ (List.mem_cons_of_mem _ List.mem_cons_self) | exact List.mem_cons_of_mem _ (List.mem_cons_of_mem _ (List.mem_cons_of_mem _ List.mem_cons_self)))) | (apply Fr.setNew; (first | omega | (simp; omega))))
  · obtain rfl : on = true := by cases on <;> simp_all
    have c1 : 0 ≤ bid := by omega
    have c2 : bid ≤ 1099511627776 := by omega
    have c3 : g ≤ 1099511627776 := by omega
    have hl : leastI true bid g = if (upI (bid + 1) g).2 = false ∨ 1099511627776 < (upI (bid + 1) g).1 then (0, false) else ((upI (bid + 1) g).1, true) := by unfold leastI; rw [if_neg c]
    rw [hl]
    have hu := fun w => up_any w (bid + 1) g ⟨by omega, by omega⟩ hg
    clear hl c hb
    have HG := Lib.hid hg
    clear hg
    generalize upI (bid + 1) g = r at hu ⊢
    obtain ⟨q, b⟩ := r
    dsimp only at hu ⊢
    have HU := Lib.hid hu
    clear hu
    cases b with
    | false =>
      rw [if_pos (.inl rfl)]
      go_enter Try.func13, Try.ntmps13
      go_wp2_with fail
      refine (HU.out _).mono ?_
      rintro e w1 ⟨rfl, rfl⟩
      go_wp2_with fail
      go_ret2
      refine ⟨rfl, ?_⟩
      with_reducible repeat (first | exact Fr.refl _ _ | assumption | apply Fr.drew | apply Fr.drewN | apply Fr.alloc | (apply Fr.step; assumption; (intro _ h; (first | exact h | (focus (simp_all; done))))) | (apply Fr.setIn; (first | exact List.mem_cons_self | exact List.mem_cons_of_mem _ List.mem_cons_self | exact List.mem_cons_of_mem _ (List.mem_cons_of_mem _ List.mem_cons_self) | exact List.mem_cons_of_mem _ (List.mem_cons_of_mem _ (List.mem_cons_of_mem _ List.mem_cons_self)))) | (apply Fr.setNew; (first | omega | (simp; omega))))
    | true =>
      by_cases c4 : 1099511627776 < q
      · rw [if_pos (.inr c4)]
        go_enter Try.func13, Try.ntmps13
        go_wp2_with fail
        refine (HU.out _).mono ?_
        rintro e w1 ⟨rfl, rfl⟩
        go_wp2_with fail
        go_ret2
        refine ⟨rfl, ?_⟩
        with_reducible repeat (first | exact Fr.refl _ _ | assumption | apply Fr.drew | apply Fr.drewN | apply Fr.alloc | (apply Fr.step; assumption; (intro _ h; (first | exact h | (focus (simp_all; done))))) | (apply Fr.setIn; (first | exact List.mem_cons_self | exact List.mem_cons_of_mem _ List.mem_cons_self | exact List.mem_cons_of_mem _ (List.mem_cons_of_mem _ List.mem_cons_self) | exact List.mem_cons_of_mem _ (List.mem_cons_of_mem _ (List.mem_cons_of_mem _ List.mem_cons_self)))) | (apply Fr.setNew; (first | omega | (simp; omega))))
      · rw [if_neg (by simp [c4])]
        go_enter Try.func13, Try.ntmps13
        go_wp2_with fail
        refine (HU.out _).mono ?_
        rintro e w1 ⟨rfl, rfl⟩
        go_wp2_with fail
        go_ret2
        refine ⟨rfl, ?_⟩
        with_reducible repeat (first | exact Fr.refl _ _ | assumption | apply Fr.drew | apply Fr.drewN | apply Fr.alloc | (apply Fr.step; assumption; (intro _ h; (first | exact h | (focus (simp_all; done))))) | (apply Fr.setIn; (first | exact List.mem_cons_self | exact List.mem_cons_of_mem _ List.mem_cons_self | exact List.mem_cons_of_mem _ (List.mem_cons_of_mem _ List.mem_cons_self) | exact List.mem_cons_of_mem _ (List.mem_cons_of_mem _ (List.mem_cons_of_mem _ List.mem_cons_self)))) | (apply Fr.setNew; (first | omega | (simp; omega))))
theorem least_facts (on : Bool) (bid g : Int) (hb : In64 bid) (_hg : In64 g) :
    ((leastI on bid g).2 = false → (leastI on bid g).1 = 0) ∧
    ((leastI on bid g).2 = true → on = true ∧ 1 ≤ g ∧ g ≤ 1099511627776 ∧ 0 ≤ bid ∧ bid < (leastI on bid g).1 ∧ (leastI on bid g).1 - g ≤ bid ∧ (leastI on bid g).1 % g = 0 ∧ (leastI on bid g).1 ≤ 1099511627776) := by
  unfold leastI
  by_cases c : on = false ∨ bid < 0 ∨ 1099511627776 < bid ∨ 1099511627776 < g
  · rw [if_pos c]; exact ⟨fun _ => rfl, fun h => by cases h⟩
  · rw [if_neg c]
    obtain rfl : on = true := by cases on <;> simp_all
    have c1 : 0 ≤ bid := by omega
    unfold upI
    by_cases d : bid + 1 < 0 ∨ g < 1
    · rw [if_pos d]; exact ⟨fun _ => rfl, fun h => by simp at h⟩
    · rw [if_neg d]
      have g1 : 1 ≤ g := by omega
      obtain ⟨d1, d2, d3⟩ := downI_bd (p := bid + 1) (by omega) g1
      have hm : (bid + 1) / g * g % g = 0 := Int.mul_emod_left _ _
      by_cases e : (bid + 1) / g * g = bid + 1
      · rw [if_pos e]
        rw [e] at hm
        by_cases f : 1099511627776 < bid + 1
        · rw [if_pos (.inr f)]; exact ⟨fun _ => rfl, fun h => by simp at h⟩
        · rw [if_neg (by simp; omega)]
          refine ⟨fun h => by simp at h, fun _ => ⟨rfl, g1, by omega, c1, ?_, ?_, hm, ?_⟩⟩ <;> dsimp only <;> omega
      · rw [if_neg e]
        have hm2 : ((bid + 1) / g * g + g) % g = 0 := by rw [Int.add_emod_right, hm]
        by_cases f : In64 ((bid + 1) / g * g + g)
        · rw [if_pos f]
          by_cases k : 1099511627776 < (bid + 1) / g * g + g
          · rw [if_pos (.inr k)]; exact ⟨fun _ => rfl, fun h => by simp at h⟩
          · rw [if_neg (by simp; omega)]
            refine ⟨fun h => by simp at h, fun _ => ⟨rfl, g1, by omega, c1, ?_, ?_, hm2, ?_⟩⟩ <;> dsimp only <;> omega
        · rw [if_neg f]; exact ⟨fun _ => by simp, fun h => by simp at h⟩

end Go.Proofs.Ytgddmkgmpibpgaa
