/- One act on both queues, walked. -/
import Derived.Test.YtgddmkgmpibpgaaRefC
namespace Go.Proofs.Ytgddmkgmpibpgaa
set_option linter.unusedVariables false
set_option linter.unusedSimpArgs false
open Go.RowKit

theorem act_push (w : World) (q r : Value) (i n : Int) (b : Bool) (S1 : List Nat) (hS : ∀ x ∈ S1, x < w.heap.size) (P1 P2 : World → Prop)
    (hq : ∀ w1, Fr [] w w1 → Calls Try.prog 29 #[q, .int .i64 i, .int .i64 n] w1 fun e w' => e = .returned (.bool b) ∧ Fr S1 w1 w' ∧ P1 w')
    (hr : ∀ w1, P1 w1 → Calls Try.prog 68 #[r, .int .i64 i, .int .i64 n] w1 fun e w' => e = .returned (.bool b) ∧ P2 w') :
    Calls Try.prog 26 #[q, r, .agg #[.int .i64 0, .int .i64 i, .int .i64 n]] w fun e w' => e = .returned (.bool true) ∧ P2 w' := by
  have HQ := Lib.hid hq
  have HR := Lib.hid hr
  have HS := Lib.hid hS
  clear hq hr hS
  go_enter Try.func26, Try.ntmps26
  go_wp2_with fail
  have B0 : Blk (w.alloc (.cells #[.int .i64 0, .int .i64 i, .int .i64 n] 50)) w.heap.size 50 #[.int .i64 0, .int .i64 i, .int .i64 n] := Blk.new _ _ _
  have F0 : Fr [] w (w.alloc (.cells #[.int .i64 0, .int .i64 i, .int .i64 n] 50)) := by with_reducible repeat (first | exact Fr.refl _ _ | assumption | apply Fr.drew | apply Fr.drewN | apply Fr.alloc | (apply Fr.step; assumption; (intro _ h; (first | exact h | (focus (simp_all; done))))) | (apply Fr.setIn; (first | exact List.mem_cons_self | exact List.mem_cons_of_mem _ List.mem_cons_self | exact List.mem_cons_of_mem _ (List.mem_cons_of_mem _ List.mem_cons_self) | exact List.mem_cons_of_mem _ (List.mem_cons_of_mem _ (List.mem_cons_of_mem _ List.mem_cons_self)))) | (apply Fr.setNew; (first | omega | (simp; omega))))
  refine (HQ.out _ F0).mono ?_
  rintro e w1 ⟨rfl, F1, p1⟩
  have B1 := Blk.via F1 (fun h => by have := HS.out _ h; omega) B0
  have c1 := B1.cell
  clear B0 F0 F1
  go_wp2_with fail
  refine (HR.out _ p1).mono ?_
  rintro e w2 ⟨rfl, p2⟩
  go_wp2_with fail
  go_ret
  exact ⟨by simp, p2⟩

theorem act_pop (w : World) (q r : Value) (i n : Int) (a : Int) (b : Bool) (S1 : List Nat) (hS : ∀ x ∈ S1, x < w.heap.size) (P1 P2 : World → Prop)
    (hq : ∀ w1, Fr [] w w1 → Calls Try.prog 31 #[q, .int .i64 i] w1 fun e w' => e = .returned (.tuple #[.int .i64 a, .bool b]) ∧ Fr S1 w1 w' ∧ P1 w')
    (hr : ∀ w1, P1 w1 → Calls Try.prog 69 #[r, .int .i64 i] w1 fun e w' => e = .returned (.tuple #[.int .i64 a, .bool b]) ∧ P2 w') :
    Calls Try.prog 26 #[q, r, .agg #[.int .i64 1, .int .i64 i, .int .i64 n]] w fun e w' => e = .returned (.bool true) ∧ P2 w' := by
  have HQ := Lib.hid hq
  have HR := Lib.hid hr
  have HS := Lib.hid hS
  clear hq hr hS
  go_enter Try.func26, Try.ntmps26
  go_wp2_with fail
  have B0 : Blk (w.alloc (.cells #[.int .i64 1, .int .i64 i, .int .i64 n] 50)) w.heap.size 50 #[.int .i64 1, .int .i64 i, .int .i64 n] := Blk.new _ _ _
  have F0 : Fr [] w (w.alloc (.cells #[.int .i64 1, .int .i64 i, .int .i64 n] 50)) := by with_reducible repeat (first | exact Fr.refl _ _ | assumption | apply Fr.drew | apply Fr.drewN | apply Fr.alloc | (apply Fr.step; assumption; (intro _ h; (first | exact h | (focus (simp_all; done))))) | (apply Fr.setIn; (first | exact List.mem_cons_self | exact List.mem_cons_of_mem _ List.mem_cons_self | exact List.mem_cons_of_mem _ (List.mem_cons_of_mem _ List.mem_cons_self) | exact List.mem_cons_of_mem _ (List.mem_cons_of_mem _ (List.mem_cons_of_mem _ List.mem_cons_self)))) | (apply Fr.setNew; (first | omega | (simp; omega))))
  refine (HQ.out _ F0).mono ?_
  rintro e w1 ⟨rfl, F1, p1⟩
  have B1 := Blk.via F1 (fun h => by have := HS.out _ h; omega) B0
  have c1 := B1.cell
  clear B0 F0 F1
  go_wp2_with fail
  refine (HR.out _ p1).mono ?_
  rintro e w2 ⟨rfl, p2⟩
  go_wp2_with fail
  go_ret
  exact ⟨by simp, p2⟩

theorem act_remove (w : World) (q r : Value) (i n : Int) (a : Int) (b : Bool) (S1 : List Nat) (hS : ∀ x ∈ S1, x < w.heap.size) (P1 P2 : World → Prop)
    (hq : ∀ w1, Fr [] w w1 → Calls Try.prog 30 #[q, .int .i64 n] w1 fun e w' => e = .returned (.tuple #[.int .i64 a, .bool b]) ∧ Fr S1 w1 w' ∧ P1 w')
    (hr : ∀ w1, P1 w1 → Calls Try.prog 70 #[r, .int .i64 n] w1 fun e w' => e = .returned (.tuple #[.int .i64 a, .bool b]) ∧ P2 w') :
    Calls Try.prog 26 #[q, r, .agg #[.int .i64 2, .int .i64 i, .int .i64 n]] w fun e w' => e = .returned (.bool true) ∧ P2 w' := by
  have HQ := Lib.hid hq
  have HR := Lib.hid hr
  have HS := Lib.hid hS
  clear hq hr hS
  go_enter Try.func26, Try.ntmps26
  go_wp2_with fail
  have B0 : Blk (w.alloc (.cells #[.int .i64 2, .int .i64 i, .int .i64 n] 50)) w.heap.size 50 #[.int .i64 2, .int .i64 i, .int .i64 n] := Blk.new _ _ _
  have F0 : Fr [] w (w.alloc (.cells #[.int .i64 2, .int .i64 i, .int .i64 n] 50)) := by with_reducible repeat (first | exact Fr.refl _ _ | assumption | apply Fr.drew | apply Fr.drewN | apply Fr.alloc | (apply Fr.step; assumption; (intro _ h; (first | exact h | (focus (simp_all; done))))) | (apply Fr.setIn; (first | exact List.mem_cons_self | exact List.mem_cons_of_mem _ List.mem_cons_self | exact List.mem_cons_of_mem _ (List.mem_cons_of_mem _ List.mem_cons_self) | exact List.mem_cons_of_mem _ (List.mem_cons_of_mem _ (List.mem_cons_of_mem _ List.mem_cons_self)))) | (apply Fr.setNew; (first | omega | (simp; omega))))
  refine (HQ.out _ F0).mono ?_
  rintro e w1 ⟨rfl, F1, p1⟩
  have B1 := Blk.via F1 (fun h => by have := HS.out _ h; omega) B0
  have c1 := B1.cell
  clear B0 F0 F1
  go_wp2_with fail
  refine (HR.out _ p1).mono ?_
  rintro e w2 ⟨rfl, p2⟩
  go_wp2_with fail
  go_ret
  exact ⟨by simp, p2⟩

theorem act_front (w : World) (q r : Value) (i n : Int) (a : Int) (b : Bool) (S1 : List Nat) (hS : ∀ x ∈ S1, x < w.heap.size) (P1 P2 : World → Prop)
    (hq : ∀ w1, Fr [] w w1 → Calls Try.prog 33 #[q, .int .i64 i] w1 fun e w' => e = .returned (.tuple #[.int .i64 a, .bool b]) ∧ Fr S1 w1 w' ∧ P1 w')
    (hr : ∀ w1, P1 w1 → Calls Try.prog 71 #[r, .int .i64 i] w1 fun e w' => e = .returned (.tuple #[.int .i64 a, .bool b]) ∧ P2 w') :
    Calls Try.prog 26 #[q, r, .agg #[.int .i64 3, .int .i64 i, .int .i64 n]] w fun e w' => e = .returned (.bool true) ∧ P2 w' := by
  have HQ := Lib.hid hq
  have HR := Lib.hid hr
  have HS := Lib.hid hS
  clear hq hr hS
  go_enter Try.func26, Try.ntmps26
  go_wp2_with fail
  have B0 : Blk (w.alloc (.cells #[.int .i64 3, .int .i64 i, .int .i64 n] 50)) w.heap.size 50 #[.int .i64 3, .int .i64 i, .int .i64 n] := Blk.new _ _ _
  have F0 : Fr [] w (w.alloc (.cells #[.int .i64 3, .int .i64 i, .int .i64 n] 50)) := by with_reducible repeat (first | exact Fr.refl _ _ | assumption | apply Fr.drew | apply Fr.drewN | apply Fr.alloc | (apply Fr.step; assumption; (intro _ h; (first | exact h | (focus (simp_all; done))))) | (apply Fr.setIn; (first | exact List.mem_cons_self | exact List.mem_cons_of_mem _ List.mem_cons_self | exact List.mem_cons_of_mem _ (List.mem_cons_of_mem _ List.mem_cons_self) | exact List.mem_cons_of_mem _ (List.mem_cons_of_mem _ (List.mem_cons_of_mem _ List.mem_cons_self)))) | (apply Fr.setNew; (first | omega | (simp; omega))))
  refine (HQ.out _ F0).mono ?_
  rintro e w1 ⟨rfl, F1, p1⟩
  have B1 := Blk.via F1 (fun h => by have := HS.out _ h; omega) B0
  have c1 := B1.cell
  clear B0 F0 F1
  go_wp2_with fail
  refine (HR.out _ p1).mono ?_
  rintro e w2 ⟨rfl, p2⟩
  go_wp2_with fail
  go_ret
  exact ⟨by simp, p2⟩

theorem act_of (w : World) (q r : Value) (i n : Int) (a c d : Int) (b : Bool) (hb : b = decide (0 ≤ c)) (ha : (c < 0 ∧ a = 0) ∨ (0 ≤ c ∧ a = c)) (P1 P2 : World → Prop)
    (hq : ∀ w1, Fr [] w w1 → Calls Try.prog 34 #[q, .int .i64 n] w1 fun e w' => e = .returned (.tuple #[.int .i64 a, .bool b]) ∧ Fr [] w1 w' ∧ P1 w')
    (hr : ∀ w1, P1 w1 → Calls Try.prog 72 #[r, .int .i64 n] w1 fun e w' => e = .returned (.tuple #[.int .i64 c, .int .i64 d]) ∧ P2 w') :
    Calls Try.prog 26 #[q, r, .agg #[.int .i64 4, .int .i64 i, .int .i64 n]] w fun e w' => e = .returned (.bool true) ∧ P2 w' := by
  have HQ := Lib.hid hq
  have HR := Lib.hid hr
  have HA := Lib.hid ha
  have HB := Lib.hid hb
  clear hq hr ha hb
  go_enter Try.func26, Try.ntmps26
  go_wp2_with fail
  have B0 : Blk (w.alloc (.cells #[.int .i64 4, .int .i64 i, .int .i64 n] 50)) w.heap.size 50 #[.int .i64 4, .int .i64 i, .int .i64 n] := Blk.new _ _ _
  have F0 : Fr [] w (w.alloc (.cells #[.int .i64 4, .int .i64 i, .int .i64 n] 50)) := by with_reducible repeat (first | exact Fr.refl _ _ | assumption | apply Fr.drew | apply Fr.drewN | apply Fr.alloc | (apply Fr.step; assumption; (intro _ h; (first | exact h | (focus (simp_all; done))))) | (apply Fr.setIn; (first | exact List.mem_cons_self | exact List.mem_cons_of_mem _ List.mem_cons_self | exact List.mem_cons_of_mem _ (List.mem_cons_of_mem _ List.mem_cons_self) | exact List.mem_cons_of_mem _ (List.mem_cons_of_mem _ (List.mem_cons_of_mem _ List.mem_cons_self)))) | (apply Fr.setNew; (first | omega | (simp; omega))))
  refine (HQ.out _ F0).mono ?_
  rintro e w1 ⟨rfl, F1, p1⟩
  have B1 := Blk.via F1 (by simp) B0
  have c1 := B1.cell
  clear B0 F0 F1
  go_wp2_with fail
  refine (HR.out _ p1).mono ?_
  rintro e w2 ⟨rfl, p2⟩
  go_wp2_with fail
  all_goals
    go_ret
    refine ⟨ret_bool ?_, p2⟩
    have h1 := HA.out
    have h2 := HB.out
    first
      | (exfalso; omega)
      | (rw [h2]; simp; omega)
      | (rw [h2]; simp; done)

theorem act_other (w : World) (q r : Value) (k i n : Int) (hk : k < 0 ∨ 4 < k) :
    Calls Try.prog 26 #[q, r, .agg #[.int .i64 k, .int .i64 i, .int .i64 n]] w fun e w' => e = .returned (.bool true) ∧ Fr [] w w' := by
  have h0 : (k == 0) = false := by simp; omega
  have h1 : (k == 1) = false := by simp; omega
  have h2 : (k == 2) = false := by simp; omega
  have h3 : (k == 3) = false := by simp; omega
  have h4 : (k == 4) = false := by simp; omega
  go_enter Try.func26, Try.ntmps26
  go_wp2_with fail
  go_ret
  exact ⟨rfl, by with_reducible repeat (first | exact Fr.refl _ _ | assumption | apply Fr.drew | apply Fr.drewN | apply Fr.alloc | (apply Fr.step; assumption; (intro _ h; (first | exact h | (focus (simp_all; done))))) | (apply Fr.setIn; (first | exact List.mem_cons_self | exact List.mem_cons_of_mem _ List.mem_cons_self | exact List.mem_cons_of_mem _ (List.mem_cons_of_mem _ List.mem_cons_self) | exact List.mem_cons_of_mem _ (List.mem_cons_of_mem _ (List.mem_cons_of_mem _ List.mem_cons_self)))) | (apply Fr.setNew; (first | omega | (simp; omega))))⟩
end Go.Proofs.Ytgddmkgmpibpgaa
