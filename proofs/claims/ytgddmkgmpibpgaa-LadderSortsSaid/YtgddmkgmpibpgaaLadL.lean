/- The ladder: the law's example; a new ladder. -/
import Derived.Test.YtgddmkgmpibpgaaLadK
namespace Go.Proofs.Ytgddmkgmpibpgaa
set_option linter.unusedVariables false
set_option linter.unusedSimpArgs false
open Go.RowKit Go.Shelf

theorem LadI.empty {w : World} {lp : Nat} {side most : Int} {f : Nat → Lvl} (h : LadR w lp side most (.slice none 0 0) (fun _ => 0) 0 f) : LadI w lp side most (.slice none 0 0) (fun _ => 0) 0 f :=
  ⟨h, fun _ _ => by simp, fun q hq => by simp [usedB], fun i hi => by omega, fun i hi => by omega, fun i hi => by omega, fun i j hi => by omega, by simp [Value.ownBlock]⟩

theorem free_zero {k : Nat} (h : ∀ c, c < k → usedB (fun _ => 0) c = true) : k = 0 := by
  rcases Nat.eq_zero_or_pos k with e | e
  · exact e
  · have := h 0 e
    simp [usedB] at this
theorem free_one {k : Nat} (h1 : usedB (setU (fun _ => 0) 0) k = false) (h : ∀ c, c < k → usedB (setU (fun _ => 0) 0) c = true) : k = 1 := by
  rcases (show k = 0 ∨ k = 1 ∨ 1 < k by omega) with e | e | e
  · subst e; rw [setU_used] at h1; simp at h1
  · exact e
  · have := h 1 e
    rw [setU_used] at this
    simp [usedB] at this

set_option maxHeartbeats 1000000 in
theorem ladAlive_any (w : World) :
    Calls Try.prog 51 #[] w fun e w' => e = .returned (.bool true) ∧ Fr [] w w' := by
  go_enter Try.func51, Try.ntmps51
  go_wp2_with fail
  refine (ladNew_yes _ 1 4 (.inr rfl) (by omega)).mono ?_
  rintro e w1 ⟨lp, hlp, rfl, F1, R1⟩
  have I1 := LadI.empty R1
  have HI := Lib.hid (put_new w1 lp 1 4 _ _ 0 _ I1 10 5 (by omega) (by omega) (fun j hj => by omega) (by omega))
  clear R1
  go_wp2_with fail
  refine HI.out.mono ?_
  rintro e w2 ⟨k, i, v2, rfl, F2, hv2, hpl, I2, hk1, hk2⟩
  obtain rfl := free_zero hk2
  obtain rfl : i = 0 := by have := hpl.1; omega
  have H2 := Lib.hid (put_new w2 lp 1 4 _ _ 1 _ I2 8 1 (by omega) (by omega) (fun j hj => by obtain rfl : j = 0 := (by omega); simp [insF]) (by omega))
  have S1 := F1.size
  have G2 : Fr [] w w2 := fr_fresh F2 (by simp [Value.ownBlock]; omega) F1
  clear hpl hk1 hk2 HI I1
  go_wp2_with fail
  refine H2.out.mono ?_
  rintro e w3 ⟨k, i, v3, rfl, F3, _, hpl, I3, hk1, hk2⟩
  obtain rfl := free_one hk1 hk2
  obtain rfl : i = 0 := by
    rcases (show i = 0 ∨ 0 < i by omega) with e | e
    · exact e
    · have := hpl.2.1 0 e
      simp [keyI, insF] at this
  have HB := Lib.hid (fun W (F : Fr [] w3 W) => best_yes W lp 1 4 _ _ 2 _ (I3.r.fr F (by simp) (by simp)) (by omega))
  have HWo := Lib.hid (fun W (F : Fr [] w3 W) => worth_any W lp 1 4 _ _ 2 _ ⟨I3.r.fr F (by simp) (by simp), I3.word, I3.bit, I3.low, I3.qty, I3.ord, I3.inj, I3.own⟩ 10 (by unfold In63; omega))
  have G3 : Fr [] w w3 := by
    refine fr_fresh F3 ?_ G2
    intro x hx
    rcases List.mem_cons.1 hx with rfl | hx
    · exact hlp
    · have h1 : v2.ownBlock = some x := by simpa using hx
      rcases hv2 with e | ⟨g, e, hg⟩
      · rw [h1] at e; cases e
      · rw [h1] at e; cases e; omega
  clear hpl hk1 hk2 H2 I2 I3 hv2
  go_wp2_with fail
  refine (HB.out _ (by with_reducible repeat (first | exact Fr.refl _ _ | assumption | apply Fr.drew | apply Fr.drewN | apply Fr.alloc | (apply Fr.step; assumption; (intro _ h; (first | exact h | (focus (simp_all; done))))) | (apply Fr.setIn; (first | exact List.mem_cons_self | exact List.mem_cons_of_mem _ List.mem_cons_self | exact List.mem_cons_of_mem _ (List.mem_cons_of_mem _ List.mem_cons_self) | exact List.mem_cons_of_mem _ (List.mem_cons_of_mem _ (List.mem_cons_of_mem _ List.mem_cons_self)))) | (apply Fr.setNew; (first | omega | (simp; omega)))))).mono ?_
  rintro e w4 ⟨rfl, F4⟩
  have e0 : (insF (insF (fun _ => (⟨0, 0, 0, 0⟩ : Lvl)) 0 ⟨10, 5, 1, (0 : Nat)⟩) 0 ⟨8, 1, 1, (1 : Nat)⟩) 0 = ⟨8, 1, 1, (1 : Nat)⟩ := by simp [insF]
  rw [e0]
  simp only [lvV]
  clear e0
  go_wp2_with fail
  have ew : worthL 1 10 (lvs (insF (insF (fun _ => (⟨0, 0, 0, 0⟩ : Lvl)) 0 ⟨10, 5, 1, (0 : Nat)⟩) 0 ⟨8, 1, 1, (1 : Nat)⟩) 2) 0 = 6 := by
    simp [lvs, List.range_succ, insF, worthL, keyI]
  refine (HWo.out _ (by with_reducible repeat (first | exact Fr.refl _ _ | assumption | apply Fr.drew | apply Fr.drewN | apply Fr.alloc | (apply Fr.step; assumption; (intro _ h; (first | exact h | (focus (simp_all; done))))) | (apply Fr.setIn; (first | exact List.mem_cons_self | exact List.mem_cons_of_mem _ List.mem_cons_self | exact List.mem_cons_of_mem _ (List.mem_cons_of_mem _ List.mem_cons_self) | exact List.mem_cons_of_mem _ (List.mem_cons_of_mem _ (List.mem_cons_of_mem _ List.mem_cons_self)))) | (apply Fr.setNew; (first | omega | (simp; omega)))))).mono ?_
  rw [ew]
  clear ew
  rintro e w5 ⟨rfl, F5⟩
  go_wp2_with fail
  go_ret
  refine ⟨rfl, ?_⟩
  with_reducible repeat (first | exact Fr.refl _ _ | assumption | apply Fr.drew | apply Fr.drewN | apply Fr.alloc | (apply Fr.step; assumption; (intro _ h; (first | exact h | (focus (simp_all; done))))) | (apply Fr.setIn; (first | exact List.mem_cons_self | exact List.mem_cons_of_mem _ List.mem_cons_self | exact List.mem_cons_of_mem _ (List.mem_cons_of_mem _ List.mem_cons_self) | exact List.mem_cons_of_mem _ (List.mem_cons_of_mem _ (List.mem_cons_of_mem _ List.mem_cons_self)))) | (apply Fr.setNew; (first | omega | (simp; omega))))
end Go.Proofs.Ytgddmkgmpibpgaa
