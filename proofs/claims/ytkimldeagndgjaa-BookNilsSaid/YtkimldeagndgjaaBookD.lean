/- A book: what Add refuses. -/
import Derived.Test.YtkimldeagndgjaaBookC
import Derived.Outline
namespace Go.Proofs.Ytkimldeagndgjaa
set_option linter.unusedVariables false
set_option linter.unusedSimpArgs false
open Go.RowKit

theorem bookAdd_nil (w : World) (o : Ord) : Calls Try.prog 23 #[.pointer none, .agg o.a] w fun e w' => e = .returned (.int .i64 1) ∧ Fr [] w w' := by
  go_enter Try.func23, Try.ntmps23
  go_wp2_with fail
  refine (of_side_nil _ _).mono ?_
  rintro e w1 ⟨rfl, rfl⟩
  go_wp2_with fail
  go_ret
  exact ⟨rfl, by with_reducible repeat (first | exact Fr.refl _ _ | assumption | apply Fr.drew | apply Fr.drewN | apply Fr.alloc | (apply Fr.step; assumption; (intro _ h; (first | exact h | (focus (simp_all; done))))) | (apply Fr.setIn; (first | exact List.mem_cons_self | exact List.mem_cons_of_mem _ List.mem_cons_self | exact List.mem_cons_of_mem _ (List.mem_cons_of_mem _ List.mem_cons_self) | exact List.mem_cons_of_mem _ (List.mem_cons_of_mem _ (List.mem_cons_of_mem _ List.mem_cons_self)))) | (apply Fr.setNew; (first | omega | (simp; omega))))⟩
theorem bookAdd_side (w : World) (b : Nat) (o : Ord) (h0 : o.sd ≠ 0) (h1 : o.sd ≠ 1) : Calls Try.prog 23 #[.pointer (some ⟨b, 0, none⟩), .agg o.a] w fun e w' => e = .returned (.int .i64 1) ∧ Fr [] w w' := by
  go_enter Try.func23, Try.ntmps23
  go_wp2_with fail
  refine (of_side_no _ _ _ h0 h1).mono ?_
  rintro e w1 ⟨rfl, rfl⟩
  go_wp2_with fail
  go_ret
  exact ⟨rfl, by with_reducible repeat (first | exact Fr.refl _ _ | assumption | apply Fr.drew | apply Fr.drewN | apply Fr.alloc | (apply Fr.step; assumption; (intro _ h; (first | exact h | (focus (simp_all; done))))) | (apply Fr.setIn; (first | exact List.mem_cons_self | exact List.mem_cons_of_mem _ List.mem_cons_self | exact List.mem_cons_of_mem _ (List.mem_cons_of_mem _ List.mem_cons_self) | exact List.mem_cons_of_mem _ (List.mem_cons_of_mem _ (List.mem_cons_of_mem _ List.mem_cons_self)))) | (apply Fr.setNew; (first | omega | (simp; omega))))⟩
theorem of_some (w : World) (b : Nat) (n : Int) (h : n = 0 ∨ n = 1) : Calls Try.prog 83 #[.pointer (some ⟨b, 0, none⟩), .int .i64 n] w fun e w' => (∃ so, e = .returned (.pointer (some ⟨b, so, none⟩))) ∧ w = w' := by
  rcases h with rfl | rfl
  · exact (of_side0 w b).mono fun _ _ ⟨a, c⟩ => ⟨⟨_, a⟩, c⟩
  · exact (of_side1 w b).mono fun _ _ ⟨a, c⟩ => ⟨⟨_, a⟩, c⟩
theorem bookAdd_range (w : World) (b : Nat) (o : Ord) (h : o.sd = 0 ∨ o.sd = 1) (hr : ¬ ((1 ≤ o.pr ∧ o.pr ≤ 1099511627776) ∧ (1 ≤ o.qt ∧ o.qt ≤ 4294967296))) : Calls Try.prog 23 #[.pointer (some ⟨b, 0, none⟩), .agg o.a] w fun e w' => e = .returned (.int .i64 9) ∧ Fr [] w w' := by
  have HO := Lib.hid (fun W => of_some W b o.sd h)
  clear h
  rcases (show o.pr < 1 ∨ (¬ o.pr < 1 ∧ 1099511627776 < o.pr) ∨ (¬ o.pr < 1 ∧ ¬ 1099511627776 < o.pr ∧ o.qt < 1) ∨ (¬ o.pr < 1 ∧ ¬ 1099511627776 < o.pr ∧ ¬ o.qt < 1 ∧ 4294967296 < o.qt) by omega) with a1 | ⟨a1, a2⟩ | ⟨a1, a2, a3⟩ | ⟨a1, a2, a3, a4⟩
  all_goals
    clear hr
    go_enter Try.func23, Try.ntmps23
    go_wp2_with fail
    refine (HO.out _).mono ?_
    rintro e w1 ⟨⟨so, rfl⟩, rfl⟩
    go_wp2_with fail
    go_ret
    exact ⟨rfl, by with_reducible repeat (first | exact Fr.refl _ _ | assumption | apply Fr.drew | apply Fr.drewN | apply Fr.alloc | (apply Fr.step; assumption; (intro _ h; (first | exact h | (focus (simp_all; done))))) | (apply Fr.setIn; (first | exact List.mem_cons_self | exact List.mem_cons_of_mem _ List.mem_cons_self | exact List.mem_cons_of_mem _ (List.mem_cons_of_mem _ List.mem_cons_self) | exact List.mem_cons_of_mem _ (List.mem_cons_of_mem _ (List.mem_cons_of_mem _ List.mem_cons_self)))) | (apply Fr.setNew; (first | omega | (simp; omega))))⟩

set_option maxHeartbeats 1000000 in
theorem bookAdd_twice (w : World) (b : Nat) (D : List Nat) (N K : Nat) (L : List Ord) (h : BookI w b D N K L) (o : Ord) (ho : Good o) (hid : ∃ x ∈ L, x.id = o.id) :
    Calls Try.prog 23 #[.pointer (some ⟨b, 0, none⟩), .agg o.a] w fun e w' => e = .returned (.int .i64 6) ∧ Fr [] w w' := by
  obtain ⟨ba, bi, bs, bm, l0, q0, n0, e0, l1, q1, n1, e1, v0, v1, fl, m, ix, T, ord, hr, rfl, rfl⟩ := h
  obtain ⟨s, hix⟩ : ∃ s, ix o.id = some s := by
    obtain ⟨x, hx, he⟩ := hid
    obtain ⟨i, hi, rfl⟩ := List.mem_map.1 hx
    exact ⟨i, (hr.ids o.id i).2 ⟨hi, he⟩⟩
  have HO := Lib.hid (fun W => of_some W b o.sd ho.sd)
  have HX := Lib.hid hr.x
  have HB := Lib.hid hr.blk
  have HID := Lib.hid hix
  have p1 : ¬ o.pr < 1 := by have := ho.pr; omega
  have p2 : ¬ 1099511627776 < o.pr := by have := ho.pr; omega
  have p3 : ¬ o.qt < 1 := by have := ho.qt; omega
  have p4 : ¬ 4294967296 < o.qt := by have := ho.qt; omega
  clear hr hix hid ho
  go_enter Try.func23, Try.ntmps23
  go_wp2_with fail
  refine calls_named (fun W0 hW => ?_)
  have B0 := Blk.box0 hW
  have F0 : Fr [] w W0 := Fr.eqv hW (by with_reducible repeat (first | exact Fr.refl _ _ | assumption | apply Fr.drew | apply Fr.drewN | apply Fr.alloc | (apply Fr.step; assumption; (intro _ h; (first | exact h | (focus (simp_all; done))))) | (apply Fr.setIn; (first | exact List.mem_cons_self | exact List.mem_cons_of_mem _ List.mem_cons_self | exact List.mem_cons_of_mem _ (List.mem_cons_of_mem _ List.mem_cons_self) | exact List.mem_cons_of_mem _ (List.mem_cons_of_mem _ (List.mem_cons_of_mem _ List.mem_cons_self)))) | (apply Fr.setNew; (first | omega | (simp; omega)))))
  have K0 := Blk.via F0 (by simp) HB.out
  clear hW
  refine (HO.out W0).mono ?_
  rintro e w1 ⟨⟨so, rfl⟩, rfl⟩
  have q0 := B0.cell
  go_wp2_with fail
  have HGet : Hid (∀ W, Fr [] W0 W → Calls Try.prog 84 #[.pointer (some ⟨bi, 0, none⟩), .agg #[.int .i64 0, .int .i64 o.id]] W fun e w' => e = .returned (.tuple #[.int .i64 s, .bool true]) ∧ Fr [] W w') := Lib.hid fun W hf => by
    have := ixGet_any W bi bs bm T.length ix (HX.out.fr (F0.trans hf) (by simp) (by simp) (by simp)) o.id
    rw [HID.out] at this
    exact this
  clear q0
  refine wp_region_soft (by kernel_rfl) (by kernel_rfl) ?_; (repeat (refine wpQuiet_step (fun K hK => ?_); (first | ((fail); go_simp; refine hK _ ?_; clear hK K) | (apply soft_do; (rfl); (focus (intro W hC; (have q2 := (Blk.via hC (by simp) B0).cell; have q5 := (Blk.via hC (by simp) K0).cell); go_simp; (first | (first | (go_at_call 85; refine (key_book _ _).mono ?_; rintro e w2 ⟨rfl, hf⟩; exact ⟨rfl, hC.trans hf⟩) | (go_at_call 84; refine (HGet.out _ hC).mono ?_; rintro e w2 ⟨rfl, hf⟩; exact ⟨rfl, hC.trans hf⟩)) | done | rfl | exact ⟨rfl, rfl⟩))); (go_simp; refine hK _ ?_; clear hK K)) | (apply soft_skip; (rfl); (go_simp; refine hK _ ?_; clear hK K))))); refine wpQuiet_nil ?_
  intro w2 F2
  go_wp2_with fail
  go_ret
  exact ⟨rfl, F0.trans F2⟩

set_option maxHeartbeats 1000000 in
theorem bookAdd_full (w : World) (b : Nat) (D : List Nat) (N K : Nat) (L : List Ord) (h : BookI w b D N K L) (o : Ord) (ho : Good o) (hid : ∀ x ∈ L, x.id ≠ o.id) (hfull : ¬ (FitsL o.sd o.pr L K ∧ L.length < N)) :
    Calls Try.prog 23 #[.pointer (some ⟨b, 0, none⟩), .agg o.a] w fun e w' => e = .returned (.int .i64 7) ∧ Fr [] w w' := by
  obtain ⟨ba, bi, bs, bm, l0, q0, n0, e0, l1, q1, n1, e1, v0, v1, fl, m, ix, T, ord, hr, rfl, rfl⟩ := h
  have hix : ix o.id = none := by
    cases hh : ix o.id with
    | none => rfl
    | some s =>
      obtain ⟨h1, h2⟩ := (hr.ids o.id s).1 hh
      exact absurd h2 (hid _ (List.mem_map.2 ⟨s, h1, rfl⟩))
  have hp : In63 o.pr := by unfold In63; have := ho.pr; omega
  have HR := Lib.hid (fun W (hf : Fr [] w W) => bkRoom W b ba bi bs bm l0 q0 n0 e0 l1 q1 n1 e1 v0 v1 N K fl m ix T ord (hr.fr hf (by simp)) o.sd ho.sd o.pr hp false (by simpa using hfull))
  have HO := Lib.hid (fun W => of_some W b o.sd ho.sd)
  have HX := Lib.hid hr.x
  have HB := Lib.hid hr.blk
  have HID := Lib.hid hix
  have p1 : ¬ o.pr < 1 := by have := ho.pr; omega
  have p2 : ¬ 1099511627776 < o.pr := by have := ho.pr; omega
  have p3 : ¬ o.qt < 1 := by have := ho.qt; omega
  have p4 : ¬ 4294967296 < o.qt := by have := ho.qt; omega
  clear hr hix hid ho hfull
  go_enter Try.func23, Try.ntmps23
  go_wp2_with fail
  refine calls_named (fun W0 hW => ?_)
  have B0 := Blk.box0 hW
  have F0 : Fr [] w W0 := Fr.eqv hW (by with_reducible repeat (first | exact Fr.refl _ _ | assumption | apply Fr.drew | apply Fr.drewN | apply Fr.alloc | (apply Fr.step; assumption; (intro _ h; (first | exact h | (focus (simp_all; done))))) | (apply Fr.setIn; (first | exact List.mem_cons_self | exact List.mem_cons_of_mem _ List.mem_cons_self | exact List.mem_cons_of_mem _ (List.mem_cons_of_mem _ List.mem_cons_self) | exact List.mem_cons_of_mem _ (List.mem_cons_of_mem _ (List.mem_cons_of_mem _ List.mem_cons_self)))) | (apply Fr.setNew; (first | omega | (simp; omega)))))
  have K0 := Blk.via F0 (by simp) HB.out
  clear hW
  refine (HO.out W0).mono ?_
  rintro e w1 ⟨⟨so, rfl⟩, rfl⟩
  have q0 := B0.cell
  go_wp2_with fail
  have HGet : Hid (∀ W, Fr [] W0 W → Calls Try.prog 84 #[.pointer (some ⟨bi, 0, none⟩), .agg #[.int .i64 0, .int .i64 o.id]] W fun e w' => e = .returned (.tuple #[.int .i64 0, .bool false]) ∧ Fr [] W w') := Lib.hid fun W hf => by
    have := ixGet_any W bi bs bm T.length ix (HX.out.fr (F0.trans hf) (by simp) (by simp) (by simp)) o.id
    rw [HID.out] at this
    exact this
  clear q0
  refine wp_region_soft (by kernel_rfl) (by kernel_rfl) ?_; (repeat (refine wpQuiet_step (fun K hK => ?_); (first | ((fail); go_simp; refine hK _ ?_; clear hK K) | (apply soft_do; (rfl); (focus (intro W hC; (have q2 := (Blk.via hC (by simp) B0).cell; have q5 := (Blk.via hC (by simp) K0).cell); go_simp; (first | (first | (go_at_call 85; refine (key_book _ _).mono ?_; rintro e w2 ⟨rfl, hf⟩; exact ⟨rfl, hC.trans hf⟩) | (go_at_call 84; refine (HGet.out _ hC).mono ?_; rintro e w2 ⟨rfl, hf⟩; exact ⟨rfl, hC.trans hf⟩)) | done | rfl | exact ⟨rfl, rfl⟩))); (go_simp; refine hK _ ?_; clear hK K)) | (apply soft_skip; (rfl); (go_simp; refine hK _ ?_; clear hK K))))); refine wpQuiet_nil ?_
  intro w2 F2
  have B2 := Blk.via F2 (by simp) B0
  have q2 := B2.cell
  go_wp2_with fail
  refine (HR.out w2 (F0.trans F2)).mono ?_
  rintro e w3 ⟨rfl, F3⟩
  go_wp2_with fail
  go_ret
  exact ⟨rfl, (F0.trans F2).trans F3⟩
end Go.Proofs.Ytkimldeagndgjaa
