/- The law LadderNils, walked. -/
import Derived.Test.YtgddmkgmpibpgaaLadL
namespace Go.Proofs.Ytgddmkgmpibpgaa
set_option linter.unusedVariables false
set_option linter.unusedSimpArgs false
open Go.RowKit Go.Shelf
attribute [local go_sem] Oper.semAt_some

theorem ladderNils_walk (w : World) (a0 : Int) (a1 : Int) (b0 : -9223372036854775808 ≤ a0 ∧ a0 ≤ 9223372036854775807) (b1 : -9223372036854775808 ≤ a1 ∧ a1 ≤ 9223372036854775807) :
    Calls Try.prog 12 #[.int .i64 a0, .int .i64 a1] w fun e w' => e = .returned (.bool true) ∧ Below w.heap.size w w' := by
  refine callsIn_wide.1 (callsIn_of_wp_marks (n := 0) Try.func12 rfl trivial ?_ rfl)
  simp only [Try.ntmps12, List.size_toArray, List.length_cons, List.length_nil, Nat.reduceAdd, Nat.reduceSub, Array.replicate_succ, Array.replicate_zero, List.push_toArray, List.append_toArray, List.nil_append, List.cons_append]
  refine wpIn_wide.2 ?_
  go_wp2_with fail
  refine (ladAlive_any _).mono ?_
  rintro e w1 ⟨rfl, hf1⟩
  have B0 := Blk.via hf1 (by simp) (Blk.new w 4 #[.bool false])
  have F1 : Fr [] w w1 := by with_reducible repeat (first | exact Fr.refl _ _ | assumption | apply Fr.drew | apply Fr.drewN | apply Fr.alloc | (apply Fr.step; assumption; (intro _ h; (first | exact h | (focus (simp_all; done))))) | (apply Fr.setIn; (first | exact List.mem_cons_self | exact List.mem_cons_of_mem _ List.mem_cons_self | exact List.mem_cons_of_mem _ (List.mem_cons_of_mem _ List.mem_cons_self) | exact List.mem_cons_of_mem _ (List.mem_cons_of_mem _ (List.mem_cons_of_mem _ List.mem_cons_self)))) | (apply Fr.setNew; (first | omega | (simp; omega))))
  clear hf1
  go_wp2_with fail
  refine (lEach_mk _ (.pointer none) ⟨none, rfl⟩).mono ?_
  rintro e w2 ⟨rfl, hW⟩
  have B1 := Blk.box0 hW.symm
  have B3 := Blk.eqv hW.symm (B0.alloc _)
  have F2 := Fr.eqv hW.symm (F1.alloc _)
  have lb := B3.lt
  clear hW B0 F1
  go_wp2_with fail
  refine wp_name_act (fun A hA => ?_)
  have hA1 : A.eval (.tmp 17) = .func (.func 94) #[] #[.pointer (some ⟨w1.heap.size, 0, none⟩)] := by rw [hA]; rfl
  have l1 := F2.size
  refine (wpIn_wide (n := 0)).1 (range_outer hA1 (enters_of Try.func94 (by kernel_rfl) rfl) (lEach_own_nil w2 _ [] B1) (Below.refl _ _) (fun _ => rfl) (by simp)
    (fun _ W => Fr [] w W ∧ Blk W w.heap.size 4 #[.bool false]) (fun _ _ _ => False) (fun _ _ _ _ => False) (OwnFrom.and (ownFrom_fr (by omega)) ((own_blk _ _ _).from _)) (fun _ _ _ _ _ h => h.elim) (fun _ _ _ _ _ _ h => h.elim) ⟨F2, B3⟩
    ?assign ?body ?done ?stop)
  case assign => intro l pre x W K _ h; exact absurd h.length_le (by simp)
  case body => intro l pre x a' W _ _ h; exact h.elim
  case stop => intro D c pre W _ _ h; exact h.elim
  case done =>
    rintro D W hD ⟨F3, B4⟩ hK
    subst hA
    clear hA1 F2 B1 B3
    have HK := Lib.hid hK
    clear hK
    go_wp2_with fail
    refine (put_nil W a0 a1).mono ?_
    rintro e w3 ⟨rfl, rfl⟩
    go_wp2_with fail
    refine (take_nil W a0 a1 true).mono ?_
    rintro e w3 ⟨rfl, rfl⟩
    go_wp2_with fail
    refine (best_no W (.pointer none) (fun w' _ => ladLen_nil w')).mono ?_
    rintro e w3 ⟨rfl, G1⟩
    simp only [lvV]
    go_wp2_with fail
    refine (find_nil _ a0).mono ?_
    rintro e w4 ⟨rfl, G2⟩
    simp only [lvV]
    go_wp2_with fail
    refine (fits_nil _ a0).mono ?_
    rintro e w5 ⟨rfl, G3⟩
    go_wp2_with fail
    refine (worth_nil _ a0).mono ?_
    rintro e w6 ⟨rfl, G4⟩
    have G : Fr [] W w6 := by with_reducible repeat (first | exact Fr.refl _ _ | assumption | apply Fr.drew | apply Fr.drewN | apply Fr.alloc | (apply Fr.step; assumption; (intro _ h; (first | exact h | (focus (simp_all; done))))) | (apply Fr.setIn; (first | exact List.mem_cons_self | exact List.mem_cons_of_mem _ List.mem_cons_self | exact List.mem_cons_of_mem _ (List.mem_cons_of_mem _ List.mem_cons_self) | exact List.mem_cons_of_mem _ (List.mem_cons_of_mem _ (List.mem_cons_of_mem _ List.mem_cons_self)))) | (apply Fr.setNew; (first | omega | (simp; omega))))
    have B5 := Blk.via G (by simp) B4
    have F5 := F3.trans G
    have hK5 := def_fr G HK.out (by simp)
    have c5 := B5.cell
    have f5 := B5.frozen
    clear B4 F3 G G1 G2 G3 G4 HK
    have HK := Lib.hid hK5
    clear hK5
    go_wp2_with fail
    refine (ladLen_nil w6).mono ?_
    rintro e w7 ⟨rfl, rfl⟩
    go_wp2_with fail
    have l5 := B5.lt
    have B6 : Blk (w6.setCell ⟨w.heap.size, 0, none⟩ (.bool true)) w.heap.size 4 #[.bool true] := B5.same 0 _
    have F6 : Fr [] w (w6.setCell ⟨w.heap.size, 0, none⟩ (.bool true)) := Fr.setNew (Nat.le_refl _) F5
    have HK6 := def_fr (Fr.setIn (o := 0) (u := .bool true) List.mem_cons_self (Fr.refl [w.heap.size] w6)) HK.out (by intro h; rcases List.mem_singleton.1 h with rfl; omega)
    have c6 := (blk_put (o' := .deferred none) B6 HK6 rfl).cell 0
    refine ⟨by simp, .inl ⟨_, _, rfl, run_takeDeferred HK6, ?_⟩⟩
    refine ⟨.bool true, ?_, rfl, (fr_put F6 (by omega)).toBelow⟩
    simp [results, Try.f12, go_sem, c6]
end Go.Proofs.Ytgddmkgmpibpgaa
