/- The law BookNils, walked. -/
import Derived.Test.YtkimldeagndgjaaBookO
namespace Go.Proofs.Ytkimldeagndgjaa
set_option linter.unusedVariables false
set_option linter.unusedSimpArgs false
open Go.RowKit Go.Shelf
attribute [local go_sem] Oper.semAt_some

set_option maxHeartbeats 2000000 in
theorem bookNils_walk (w : World) (a0 : Int) (a1 : Int) (a2 : Int) (a3 : Int) (b0 : -9223372036854775808 ≤ a0 ∧ a0 ≤ 9223372036854775807) (b1 : -9223372036854775808 ≤ a1 ∧ a1 ≤ 9223372036854775807) (b2 : -9223372036854775808 ≤ a2 ∧ a2 ≤ 9223372036854775807) (b3 : -9223372036854775808 ≤ a3 ∧ a3 ≤ 9223372036854775807) :
    Calls Try.prog 9 #[.int .i64 a0, .int .i64 a1, .int .i64 a2, .int .i64 a3] w fun e w' => e = .returned (.bool true) ∧ Below w.heap.size w w' := by
  clear b0 b1 b2 b3
  refine callsIn_wide.1 (callsIn_of_wp_marks (n := 0) Try.func9 rfl trivial ?_ rfl)
  simp only [Try.ntmps9, List.size_toArray, List.length_cons, List.length_nil, Nat.reduceAdd, Nat.reduceSub, Array.replicate_succ, Array.replicate_zero, List.push_toArray, List.append_toArray, List.nil_append, List.cons_append]
  refine wpIn_wide.2 ?_
  go_wp2_with fail
  refine (bookAlive_any _).mono ?_
  rintro e w1 ⟨rfl, hf1⟩
  have B0 := Blk.via hf1 (by simp) (Blk.new w 4 #[.bool false])
  have F1 : Fr [] w w1 := by with_reducible repeat (first | exact Fr.refl _ _ | assumption | apply Fr.drew | apply Fr.drewN | apply Fr.alloc | (apply Fr.step; assumption; (intro _ h; (first | exact h | (focus (simp_all; done))))) | (apply Fr.setIn; (first | exact List.mem_cons_self | exact List.mem_cons_of_mem _ List.mem_cons_self | exact List.mem_cons_of_mem _ (List.mem_cons_of_mem _ List.mem_cons_self) | exact List.mem_cons_of_mem _ (List.mem_cons_of_mem _ (List.mem_cons_of_mem _ List.mem_cons_self)))) | (apply Fr.setNew; (first | omega | (simp; omega))))
  clear hf1
  go_wp2_with fail
  refine (bEach_mk _ (.pointer none) a0 ⟨none, rfl⟩).mono ?_
  rintro e w2 ⟨rfl, hW⟩
  have B1 := Blk.box1 hW.symm
  have B2 := Blk.box0 hW.symm
  have B3 := Blk.eqv hW.symm ((B0.alloc _).alloc _)
  have F2 := Fr.eqv hW.symm ((F1.alloc _).alloc _)
  simp only [World.size_alloc] at B2
  have lb := B3.lt
  clear hW B0 F1
  go_wp2_with fail
  refine wp_name_act (fun A hA => ?_)
  have hA1 : A.eval (.tmp 24) = .func (.func 99) #[] #[.pointer (some ⟨w1.heap.size, 0, none⟩), .pointer (some ⟨w1.heap.size + 1, 0, none⟩)] := by rw [hA]; rfl
  have l1 := F2.size
  refine (wpIn_wide (n := 0)).1 (range_outer hA1 (enters_of Try.func99 (by kernel_rfl) rfl) (bEach_own_nil w2 _ _ a0 [] B1 B2) (Below.refl _ _) (fun _ => rfl) (by simp)
    (fun _ W => Fr [] w W ∧ Blk W w.heap.size 4 #[.bool false]) (fun _ _ _ => False) (fun _ _ _ _ => False) (OwnFrom.and (ownFrom_fr (by omega)) ((own_blk _ _ _).from _)) (fun _ _ _ _ _ h => h.elim) (fun _ _ _ _ _ _ h => h.elim) ⟨F2, B3⟩
    ?assign ?body ?done ?stop)
  case assign => intro l pre x W K _ h; exact absurd h.length_le (by simp)
  case body => intro l pre x a' W _ _ h; exact h.elim
  case stop => intro D c pre W _ _ h; exact h.elim
  case done =>
    rintro D W hD ⟨F3, B4⟩ hK
    subst hA
    clear hA1 F2 B1 B2 B3
    have HK := Lib.hid hK
    clear hK
    unfold ord0 at *
    go_wp2_with fail
    refine (bkRemove_nil W a1).mono ?_
    rintro e w3 ⟨rfl, G1⟩
    simp only [ord0]
    go_wp2_with fail
    refine (bkReduce_nil _ a1 1).mono ?_
    rintro e w4 ⟨rfl, G2⟩
    simp only [ord0]
    go_wp2_with fail
    refine (bkGet_nil _ a1).mono ?_
    rintro e w5 ⟨rfl, G3⟩
    simp only [ord0]
    go_wp2_with fail
    refine (bkFront_nil _ a0).mono ?_
    rintro e w6 ⟨rfl, G4⟩
    simp only [ord0]
    go_wp2_with fail
    refine (bkBest_nil _ a0).mono ?_
    rintro e w7 ⟨rfl, G5⟩
    go_wp2_with fail
    refine (bookAdd_nil _ ⟨a1, 0, 0, 0, 0, 0, 0⟩).mono ?_
    rintro e w8 ⟨rfl, G6⟩
    have G : Fr [] W w8 := by with_reducible repeat (first | exact Fr.refl _ _ | assumption | apply Fr.drew | apply Fr.drewN | apply Fr.alloc | (apply Fr.step; assumption; (intro _ h; (first | exact h | (focus (simp_all; done))))) | (apply Fr.setIn; (first | exact List.mem_cons_self | exact List.mem_cons_of_mem _ List.mem_cons_self | exact List.mem_cons_of_mem _ (List.mem_cons_of_mem _ List.mem_cons_self) | exact List.mem_cons_of_mem _ (List.mem_cons_of_mem _ (List.mem_cons_of_mem _ List.mem_cons_self)))) | (apply Fr.setNew; (first | omega | (simp; omega))))
    have F4 := F3.trans G
    have B5 := Blk.via G (by simp) B4
    have hK5 := def_fr G HK.out (by simp)
    clear G1 G2 G3 G4 G5 G6 G HK B4 F3
    have HK := Lib.hid hK5
    clear hK5
    go_wp2_with fail
    refine (bkAt_nil _ a0 a2).mono ?_
    rintro e w9 ⟨rfl, G1⟩
    go_wp2_with fail
    refine (bkWorth_nil _ a0 a2).mono ?_
    rintro e w10 ⟨rfl, G2⟩
    go_wp2_with fail
    refine (bkRoom_nil _ a0 a2).mono ?_
    rintro e w11 ⟨rfl, G3⟩
    go_wp2_with fail
    refine (bkFits_nil _ a0 a2).mono ?_
    rintro e w12 ⟨rfl, G4⟩
    go_wp2_with fail
    refine (bkLen_nil _).mono ?_
    rintro e w13 ⟨rfl, G5⟩
    go_wp2_with fail
    refine (bkCrossed_nil _).mono ?_
    rintro e w14 ⟨rfl, G6⟩
    have G : Fr [] w8 w14 := by with_reducible repeat (first | exact Fr.refl _ _ | assumption | apply Fr.drew | apply Fr.drewN | apply Fr.alloc | (apply Fr.step; assumption; (intro _ h; (first | exact h | (focus (simp_all; done))))) | (apply Fr.setIn; (first | exact List.mem_cons_self | exact List.mem_cons_of_mem _ List.mem_cons_self | exact List.mem_cons_of_mem _ (List.mem_cons_of_mem _ List.mem_cons_self) | exact List.mem_cons_of_mem _ (List.mem_cons_of_mem _ (List.mem_cons_of_mem _ List.mem_cons_self)))) | (apply Fr.setNew; (first | omega | (simp; omega))))
    have F5 := F4.trans G
    have B6 := Blk.via G (by simp) B5
    have hK5 := def_fr G HK.out (by simp)
    clear G1 G2 G3 G4 G5 G6 G HK B5 F4
    have HK := Lib.hid hK5
    clear hK5
    go_wp2_with fail
    refine (better_any _ a0 a2 a3).mono ?_
    rintro e w15 ⟨rfl, rfl⟩
    go_wp2_with fail
    refine (refBetter_any _ a0 a2 a3).mono ?_
    rintro e w15 ⟨rfl, rfl⟩
    have c5 := B6.cell
    have f5 := B6.frozen
    go_wp2_with fail
    have l5 := B6.lt
    have B7 : Blk (w14.setCell ⟨w.heap.size, 0, none⟩ (.bool true)) w.heap.size 4 #[.bool true] := B6.same 0 _
    have F6 : Fr [] w (w14.setCell ⟨w.heap.size, 0, none⟩ (.bool true)) := Fr.setNew (Nat.le_refl _) F5
    have HK6 := def_fr (Fr.setIn (o := 0) (u := .bool true) List.mem_cons_self (Fr.refl [w.heap.size] w14)) HK.out (by intro h; rcases List.mem_singleton.1 h with rfl; omega)
    have c6 := (blk_put (o' := .deferred none) B7 HK6 rfl).cell 0
    refine ⟨by simp, .inl ⟨_, _, rfl, run_takeDeferred HK6, ?_⟩⟩
    refine ⟨.bool true, ?_, rfl, (fr_put F6 (by omega)).toBelow⟩
    simp [results, Try.f9, go_sem, c6]
end Go.Proofs.Ytkimldeagndgjaa
