/- A book: New, walked. -/
import Derived.Test.YtkimldeagndgjaaBookD
import Derived.LoopN
import Derived.Outline
namespace Go.Proofs.Ytkimldeagndgjaa
set_option linter.unusedVariables false
set_option linter.unusedSimpArgs false
open Go.RowKit

theorem bookNew_bad1 (w : World) (n k : Int) (h : n < 1 ∨ 500 < n) : Calls Try.prog 22 #[.int .i64 n, .int .i64 k] w fun e w' => e = .returned (.tuple #[.pointer none, .int .i64 9]) ∧ Fr [] w w' := by
  go_enter Try.func22, Try.ntmps22
  go_wp2_with fail
  refine (arNew_bad w n h).mono ?_
  rintro e w1 ⟨rfl, F1⟩
  go_wp2_with fail
  go_ret2
  exact ⟨rfl, F1⟩

set_option maxHeartbeats 1000000 in
theorem bookNew_ok (w : World) (N K : Nat) (h1 : 1 ≤ N) (h2 : N ≤ 500) (k1 : 1 ≤ K) (k2 : K ≤ 200) :
    Calls Try.prog 22 #[.int .i64 N, .int .i64 K] w fun e w' => ∃ b D, e = .returned (.tuple #[.pointer (some ⟨b, 0, none⟩), .int .i64 0]) ∧ Fr [] w w' ∧ BookI w' b D N K [] ∧ ∀ x ∈ D, w.heap.size ≤ x := by
  go_enter Try.func22, Try.ntmps22
  go_wp2_with fail
  refine (arNew_ok w N h1 h2).mono ?_
  rintro e w1 ⟨rfl, F1, A1⟩
  go_wp2_with fail
  refine (ixNew_any w1).mono ?_
  rintro e w2 ⟨rfl, F2, X2⟩
  go_wp2_with fail
  refine wp_name (fun W3 hW => ?_)
  have B3 := Blk.box0 hW
  have F3 : Fr [] w2 W3 := Fr.eqv hW (by with_reducible repeat (first | exact Fr.refl _ _ | assumption | apply Fr.drew | apply Fr.drewN | apply Fr.alloc | (apply Fr.step; assumption; (intro _ h; (first | exact h | (focus (simp_all; done))))) | (apply Fr.setIn; (first | exact List.mem_cons_self | exact List.mem_cons_of_mem _ List.mem_cons_self | exact List.mem_cons_of_mem _ (List.mem_cons_of_mem _ List.mem_cons_self) | exact List.mem_cons_of_mem _ (List.mem_cons_of_mem _ (List.mem_cons_of_mem _ List.mem_cons_self)))) | (apply Fr.setNew; (first | omega | (simp; omega)))))
  clear hW
  have c3 := B3.cell
  have f3 := B3.frozen
  have b3 := B3.lt
  refine wp_loop_rounds 3 ?_
  rw [rounds_succ]
  go_wp2_with fail
  refine (ladNew_yes W3 0 K (.inl rfl) ⟨by omega, by omega⟩).mono ?_
  rintro e w4 ⟨l0, hl0, rfl, F4, L0⟩
  have B4 := Blk.via F4 (by simp) B3
  clear c3 f3 b3
  go_wp2_with fail
  refine (new_yes w4 N K h1 h2 k1 (by omega)).mono ?_
  rintro e w5 ⟨q0, n0, e0, g1, g2, g3, rfl, F5, Q0⟩
  have B5 := Blk.via F5 (by simp) B4
  have c5 := B5.cell
  have f5 := B5.frozen
  have b5 := B5.lt
  go_wp2_with fail
  rw [rounds_succ]
  refine wp_name (fun W6 hW => ?_)
  have B6 := Blk.eqv hW ((B5.same 1 (.pointer (some ⟨l0, 0, none⟩))).same 2 (.pointer (some ⟨q0, 0, none⟩)))
  have F6 : Fr [w2.heap.size] w5 W6 := Fr.eqv hW (by with_reducible repeat (first | exact Fr.refl _ _ | assumption | apply Fr.drew | apply Fr.drewN | apply Fr.alloc | (apply Fr.step; assumption; (intro _ h; (first | exact h | (focus (simp_all; done))))) | (apply Fr.setIn; (first | exact List.mem_cons_self | exact List.mem_cons_of_mem _ List.mem_cons_self | exact List.mem_cons_of_mem _ (List.mem_cons_of_mem _ List.mem_cons_self) | exact List.mem_cons_of_mem _ (List.mem_cons_of_mem _ (List.mem_cons_of_mem _ List.mem_cons_self)))) | (apply Fr.setNew; (first | omega | (simp; omega)))))
  clear hW c5 f5 b5
  have HB6 := Lib.hid B6
  go_wp2_with fail
  refine (ladNew_yes W6 1 K (.inr rfl) ⟨by omega, by omega⟩).mono ?_
  rintro e w7 ⟨l1, hl1, rfl, F7, L1⟩
  have B7 := Blk.via F7 (by simp) B6
  go_wp2_with fail
  refine (new_yes w7 N K h1 h2 k1 (by omega)).mono ?_
  rintro e w8 ⟨q1, n1, e1, g4, g5, g6, rfl, F8, Q1⟩
  have B8 := Blk.via F8 (by simp) B7
  have c8 := B8.cell
  have f8 := B8.frozen
  have b8 := B8.lt
  go_wp2_with fail
  rw [rounds_succ]
  refine wp_name (fun W9 hW => ?_)
  have B9 := Blk.eqv hW ((B8.same 3 (.pointer (some ⟨l1, 0, none⟩))).same 4 (.pointer (some ⟨q1, 0, none⟩)))
  have F9 : Fr [w2.heap.size] w8 W9 := Fr.eqv hW (by with_reducible repeat (first | exact Fr.refl _ _ | assumption | apply Fr.drew | apply Fr.drewN | apply Fr.alloc | (apply Fr.step; assumption; (intro _ h; (first | exact h | (focus (simp_all; done))))) | (apply Fr.setIn; (first | exact List.mem_cons_self | exact List.mem_cons_of_mem _ List.mem_cons_self | exact List.mem_cons_of_mem _ (List.mem_cons_of_mem _ List.mem_cons_self) | exact List.mem_cons_of_mem _ (List.mem_cons_of_mem _ (List.mem_cons_of_mem _ List.mem_cons_self)))) | (apply Fr.setNew; (first | omega | (simp; omega)))))
  clear hW c8 f8 b8
  go_wp2_with fail
  go_ret2
  obtain ⟨_, _, ab, _⟩ := A1.b
  have z0 := Blk.lt ab
  have z1 := X2.i.lt
  have z3 := B3.lt
  have z4 := L0.b.lt
  have z5 : q0 < w5.heap.size ∧ n0 < w5.heap.size ∧ e0 < w5.heap.size ∧ q0 ≠ n0 ∧ q0 ≠ e0 ∧ n0 ≠ e0 := by
    obtain ⟨nd, en, r, _⟩ := Q0
    exact ⟨r.q.lt, r.n.lt, r.e.lt, r.ne1, r.ne2, r.ne3⟩
  have z7 := L1.b.lt
  have z8 : q1 < w8.heap.size ∧ n1 < w8.heap.size ∧ e1 < w8.heap.size ∧ q1 ≠ n1 ∧ q1 ≠ e1 ∧ n1 ≠ e1 := by
    obtain ⟨nd, en, r, _⟩ := Q1
    exact ⟨r.q.lt, r.n.lt, r.e.lt, r.ne1, r.ne2, r.ne3⟩
  have s1 := F1.size
  have s2 := F2.size
  have s3 := F3.size
  have s4 := F4.size
  have s5 := F5.size
  have s6 := F6.size
  have s7 := F7.size
  have s8 := F8.size
  have s9 := F9.size
  have lad : ∀ (W : World) (lp : Nat) (s : Int), LadR W lp s K (.slice none 0 0) (fun _ => 0) 0 (fun _ => ⟨0, 0, 0, 0⟩) → LadI W lp s K (.slice none 0 0) (fun _ => 0) 0 (fun _ => ⟨0, 0, 0, 0⟩) := fun W lp s h =>
    ⟨h, fun _ _ => by simp, fun q hq => by simp [usedB], fun i hi => by omega, fun i hi => by omega, fun i hi => by omega, fun i j hi => by omega, by simp [Value.ownBlock]⟩
  have side : ∀ (W : World) (s : Int) (lp bq bn be : Nat), LadR W lp s K (.slice none 0 0) (fun _ => 0) 0 (fun _ => ⟨0, 0, 0, 0⟩) → AbsQ W bq bn be N K (fun _ => []) → SideI W s lp (.slice none 0 0) bq bn be N K [] (fun _ => ord0) := fun W s lp bq bn be hl hq =>
    ⟨_, 0, _, _, lad W lp s hl, hq, fun j hj => by omega, fun i hi => (by cases hi), fun _ _ _ => rfl⟩
  have G5 : Fr [w2.heap.size] w5 W9 := ((F6.trans (F7.mono (by simp))).trans (F8.mono (by simp))).trans F9
  have G2 : Fr [w2.heap.size] w2 W9 := (((F3.mono (by simp)).trans (F4.mono (by simp))).trans (F5.mono (by simp))).trans G5
  have G8 : Fr [w2.heap.size] w8 W9 := F9
  refine ⟨w2.heap.size, _, rfl, ?_, ⟨w.heap.size, w1.heap.size + 2, w1.heap.size, w1.heap.size + 1, l0, q0, n0, e0, l1, q1, n1, e1, .slice none 0 0, .slice none 0 0, List.range' 0 N, fun _ => none, fun _ => none, [], fun _ => ord0, ?_, rfl, rfl⟩, ?_⟩
  · exact ⟨(G2.os.trans F2.os).trans F1.os, (G2.tape.trans F2.tape).trans F1.tape, (G2.output.trans F2.output).trans F1.output, by omega, fun k hk _ => (G2.block k (by omega) (by simp; omega)).trans ((F2.block k (by omega) (by simp)).trans (F1.block k hk (by simp)))⟩
  · refine ⟨B9.cast rfl, (A1.fr F2 (by simp)).fr G2 (by simp; omega), X2.fr G2 (by simp; omega) (by simp; omega) (by simp; omega), ?_, ?_, ⟨by simp, by simp, by simp, h2⟩, by simp, fun _ _ => rfl, by simp, by simp, k1, k2, ?_, ?_⟩
    · exact side W9 0 l0 q0 n0 e0 ((L0.fr F5 (by simp) (by simp [Value.ownBlock])).fr G5 (by simp; omega) (by simp [Value.ownBlock])) (Q0.fr G5 (by simp; omega) (by simp; omega) (by simp; omega))
    · exact side W9 1 l1 q1 n1 e1 ((L1.fr F8 (by simp) (by simp [Value.ownBlock])).fr G8 (by simp; omega) (by simp [Value.ownBlock])) (Q1.fr G8 (by simp; omega) (by simp; omega) (by simp; omega))
    · simp [sideD, Value.ownBlock]
      omega
    · intro x hx
      simp [sideD, Value.ownBlock] at hx
      omega
  · intro x hx
    simp [sideD, Value.ownBlock] at hx
    omega
end Go.Proofs.Ytkimldeagndgjaa
