/- Whether a command is right: the program's and the document's, walked. -/
import Derived.Test.YtgddmkgmpibpgaaProg
import Derived.Test.YtgddmkgmpibpgaaFix
namespace Go.Proofs.Ytgddmkgmpibpgaa
set_option linter.unusedVariables false
set_option linter.unusedSimpArgs false
open Go.RowKit

def inB (n lo hi : Int) : Bool := decide (lo ≤ n) && decide (n ≤ hi)
theorem in1_any (w : World) (n lo hi : Int) (b : Bool) (hb : inB n lo hi = b) :
    Calls Try.prog 97 #[.int .i64 n, .int .i64 lo, .int .i64 hi] w fun e w' => e = .returned (.bool b) ∧ w = w' := by
  subst hb
  by_cases c : lo ≤ n
  · have h : inB n lo hi = decide (n ≤ hi) := by unfold inB; simp [c]
    rw [h]
    clear h
    go_enter Try.func97, Try.ntmps97
    go_wp2_with fail
    go_ret
    exact ⟨rfl, rfl⟩
  · have h : inB n lo hi = false := by unfold inB; simp [c]
    rw [h]
    have h2 : decide (lo ≤ n) = false := by simpa using c
    clear h c
    go_enter Try.func97, Try.ntmps97
    go_wp2_with fail
    go_ret
    exact ⟨rfl, rfl⟩
theorem refIn_any (w : World) (n lo hi : Int) (b : Bool) (hb : inB n lo hi = b) :
    Calls Try.prog 105 #[.int .i64 n, .int .i64 lo, .int .i64 hi] w fun e w' => e = .returned (.bool b) ∧ w = w' := by
  subst hb
  by_cases c : lo ≤ n
  · have h : inB n lo hi = decide (n ≤ hi) := by unfold inB; simp [c]
    rw [h]
    clear h
    go_enter Try.func105, Try.ntmps105
    go_wp2_with fail
    go_ret
    exact ⟨rfl, rfl⟩
  · have h : inB n lo hi = false := by unfold inB; simp [c]
    rw [h]
    have h2 : decide (lo ≤ n) = false := by simpa using c
    clear h c
    go_enter Try.func105, Try.ntmps105
    go_wp2_with fail
    go_ret
    exact ⟨rfl, rfl⟩

def cmdV (k sy id ow sd ty pr qt fl : Int) : Value := .agg #[.int .i64 k, .int .i64 sy, .int .i64 id, .int .i64 ow, .int .i64 sd, .int .i64 ty, .int .i64 pr, .int .i64 qt, .int .i64 fl]
def rightB (k sy id ow sd ty pr qt fl : Int) : Bool :=
  inB sy 0 255 && inB id 0 4611686018427387904 && (if k = 1 then inB ow 0 1073741824 && inB sd 0 1 && inB ty 1 5 && inB fl 0 7 else
    if k = 3 then ow == 0 && (sd == 0 && (ty == 0 && fl == 0)) else if k = 2 then ow == 0 && (sd == 0 && (ty == 0 && (pr == 0 && (qt == 0 && fl == 0)))) else false)

theorem rightB_no1 {k sy id ow sd ty pr qt fl : Int} (h : inB sy 0 255 = false) : rightB k sy id ow sd ty pr qt fl = false := by simp [rightB, h]
theorem rightB_no2 {k sy id ow sd ty pr qt fl : Int} (h : inB id 0 4611686018427387904 = false) : rightB k sy id ow sd ty pr qt fl = false := by simp [rightB, h]
theorem rightB_1 {sy id ow sd ty pr qt fl : Int} (h1 : inB sy 0 255 = true) (h2 : inB id 0 4611686018427387904 = true) : rightB 1 sy id ow sd ty pr qt fl = (inB ow 0 1073741824 && inB sd 0 1 && inB ty 1 5 && inB fl 0 7) := by simp [rightB, h1, h2]
theorem rightB_3 {sy id ow sd ty pr qt fl : Int} (h1 : inB sy 0 255 = true) (h2 : inB id 0 4611686018427387904 = true) : rightB 3 sy id ow sd ty pr qt fl = (ow == 0 && (sd == 0 && (ty == 0 && fl == 0))) := by simp [rightB, h1, h2]
theorem rightB_2 {sy id ow sd ty pr qt fl : Int} (h1 : inB sy 0 255 = true) (h2 : inB id 0 4611686018427387904 = true) : rightB 2 sy id ow sd ty pr qt fl = (ow == 0 && (sd == 0 && (ty == 0 && (pr == 0 && (qt == 0 && fl == 0))))) := by simp [rightB, h1, h2]
theorem rightB_else {k sy id ow sd ty pr qt fl : Int} (h1 : k ≠ 1) (h2 : k ≠ 2) (h3 : k ≠ 3) : rightB k sy id ow sd ty pr qt fl = false := by simp [rightB, h1, h2, h3]

set_option maxHeartbeats 4000000 in
theorem right_any (w : World) (k sy id ow sd ty pr qt fl : Int) :
    Calls Try.prog 79 #[.agg #[.int .i64 k, .int .i64 sy, .int .i64 id, .int .i64 ow, .int .i64 sd, .int .i64 ty, .int .i64 pr, .int .i64 qt, .int .i64 fl]] w fun e w' => e = .returned (.bool (rightB k sy id ow sd ty pr qt fl)) ∧ Fr [] w w' := by
  by_cases h1 : inB sy 0 255 = true
  · have H1 := Lib.hid h1
    by_cases h2 : inB id 0 4611686018427387904 = true
    · have H2 := Lib.hid h2
      have i1 : ¬ id < 0 := by unfold inB at h2; simp at h2; omega
      have i2 : ¬ 4611686018427387904 < id := by unfold inB at h2; simp at h2; omega
      clear h1 h2
      by_cases k1 : k = 1
      · subst k1
        rw [rightB_1 H1.out H2.out]
        generalize hb1 : inB ow 0 1073741824 = b1
        generalize hb2 : inB sd 0 1 = b2
        generalize hb3 : inB ty 1 5 = b3
        generalize hb4 : inB fl 0 7 = b4
        have HB := Lib.hid (And.intro hb1 (And.intro hb2 (And.intro hb3 hb4)))
        clear hb1 hb2 hb3 hb4
        rcases (show b1 = false ∨ (b1 = true ∧ b2 = false) ∨ (b1 = true ∧ b2 = true ∧ b3 = false) ∨ (b1 = true ∧ b2 = true ∧ b3 = true) by cases b1 <;> cases b2 <;> cases b3 <;> simp) with rfl | ⟨rfl, rfl⟩ | ⟨rfl, rfl, rfl⟩ | ⟨rfl, rfl, rfl⟩
        all_goals
          go_enter Try.func79, Try.ntmps79
          go_wp2_with fail
          refine (in1_any _ sy 0 255 true H1.out).mono ?_
          rintro e w1 ⟨rfl, rfl⟩
          go_wp2_with fail
          refine (in1_any _ ow 0 1073741824 _ HB.out.1).mono ?_
          rintro e w1 ⟨rfl, rfl⟩
          go_wp2_with fail
          (first
            | (refine (in1_any _ sd 0 1 _ HB.out.2.1).mono ?_
               rintro e w1 ⟨rfl, rfl⟩
               go_wp2_with fail)
            | skip)
          (first
            | (refine (in1_any _ ty 1 5 _ HB.out.2.2.1).mono ?_
               rintro e w1 ⟨rfl, rfl⟩
               go_wp2_with fail)
            | skip)
          (first
            | (refine (in1_any _ fl 0 7 _ HB.out.2.2.2).mono ?_
               rintro e w1 ⟨rfl, rfl⟩
               go_wp2_with fail)
            | skip)
          go_ret
          exact ⟨ret_bool (by simp), by with_reducible repeat (first | exact Fr.refl _ _ | assumption | apply Fr.drew | apply Fr.drewN | apply Fr.alloc | (apply Fr.step; assumption; (intro _ h; (first | exact h | (focus (simp_all; done))))) | (apply Fr.setIn; (first | exact List.mem_cons_self | exact List.mem_cons_of_mem _ List.mem_cons_self | exact List.mem_cons_of_mem _ (List.mem_cons_of_mem _ List.mem_cons_self) | exact List.mem_cons_of_mem _ (List.mem_cons_of_mem _ (List.mem_cons_of_mem _ List.mem_cons_self)))) | (apply Fr.setNew; (first | omega | (simp; omega))))⟩
      · have k1' : (k == 1) = false := by simpa using k1
        by_cases k3 : k = 3
        · subst k3
          clear k1 k1'
          rw [rightB_3 H1.out H2.out]
          go_enter Try.func79, Try.ntmps79
          go_wp2_with fail
          refine (in1_any _ sy 0 255 true H1.out).mono ?_
          rintro e w1 ⟨rfl, rfl⟩
          go_wp2_with fail
          all_goals
            go_ret
            exact ⟨ret_bool (by simp_all), by with_reducible repeat (first | exact Fr.refl _ _ | assumption | apply Fr.drew | apply Fr.drewN | apply Fr.alloc | (apply Fr.step; assumption; (intro _ h; (first | exact h | (focus (simp_all; done))))) | (apply Fr.setIn; (first | exact List.mem_cons_self | exact List.mem_cons_of_mem _ List.mem_cons_self | exact List.mem_cons_of_mem _ (List.mem_cons_of_mem _ List.mem_cons_self) | exact List.mem_cons_of_mem _ (List.mem_cons_of_mem _ (List.mem_cons_of_mem _ List.mem_cons_self)))) | (apply Fr.setNew; (first | omega | (simp; omega))))⟩
        · have k3' : (k == 3) = false := by simpa using k3
          by_cases k2 : k = 2
          · subst k2
            clear k1 k1' k3 k3'
            rw [rightB_2 H1.out H2.out]
            go_enter Try.func79, Try.ntmps79
            go_wp2_with fail
            refine (in1_any _ sy 0 255 true H1.out).mono ?_
            rintro e w1 ⟨rfl, rfl⟩
            go_wp2_with fail
            all_goals
              go_ret
              exact ⟨ret_bool (by simp_all), by with_reducible repeat (first | exact Fr.refl _ _ | assumption | apply Fr.drew | apply Fr.drewN | apply Fr.alloc | (apply Fr.step; assumption; (intro _ h; (first | exact h | (focus (simp_all; done))))) | (apply Fr.setIn; (first | exact List.mem_cons_self | exact List.mem_cons_of_mem _ List.mem_cons_self | exact List.mem_cons_of_mem _ (List.mem_cons_of_mem _ List.mem_cons_self) | exact List.mem_cons_of_mem _ (List.mem_cons_of_mem _ (List.mem_cons_of_mem _ List.mem_cons_self)))) | (apply Fr.setNew; (first | omega | (simp; omega))))⟩
          · have k2' : (k == 2) = false := by simpa using k2
            rw [rightB_else k1 k2 k3]
            clear k1 k2 k3
            go_enter Try.func79, Try.ntmps79
            go_wp2_with fail
            refine (in1_any _ sy 0 255 true H1.out).mono ?_
            rintro e w1 ⟨rfl, rfl⟩
            go_wp2_with fail
            go_ret
            exact ⟨rfl, by with_reducible repeat (first | exact Fr.refl _ _ | assumption | apply Fr.drew | apply Fr.drewN | apply Fr.alloc | (apply Fr.step; assumption; (intro _ h; (first | exact h | (focus (simp_all; done))))) | (apply Fr.setIn; (first | exact List.mem_cons_self | exact List.mem_cons_of_mem _ List.mem_cons_self | exact List.mem_cons_of_mem _ (List.mem_cons_of_mem _ List.mem_cons_self) | exact List.mem_cons_of_mem _ (List.mem_cons_of_mem _ (List.mem_cons_of_mem _ List.mem_cons_self)))) | (apply Fr.setNew; (first | omega | (simp; omega))))⟩
    · have h2 : inB id 0 4611686018427387904 = false := by simpa using h2
      rw [rightB_no2 h2]
      have hc : id < 0 ∨ (¬ id < 0 ∧ 4611686018427387904 < id) := by unfold inB at h2; simp at h2; omega
      clear h1 h2
      rcases hc with c | ⟨c, c2⟩
      all_goals
        go_enter Try.func79, Try.ntmps79
        go_wp2_with fail
        refine (in1_any _ sy 0 255 true H1.out).mono ?_
        rintro e w1 ⟨rfl, rfl⟩
        go_wp2_with fail
        go_ret
        exact ⟨rfl, by with_reducible repeat (first | exact Fr.refl _ _ | assumption | apply Fr.drew | apply Fr.drewN | apply Fr.alloc | (apply Fr.step; assumption; (intro _ h; (first | exact h | (focus (simp_all; done))))) | (apply Fr.setIn; (first | exact List.mem_cons_self | exact List.mem_cons_of_mem _ List.mem_cons_self | exact List.mem_cons_of_mem _ (List.mem_cons_of_mem _ List.mem_cons_self) | exact List.mem_cons_of_mem _ (List.mem_cons_of_mem _ (List.mem_cons_of_mem _ List.mem_cons_self)))) | (apply Fr.setNew; (first | omega | (simp; omega))))⟩
  · have h1 : inB sy 0 255 = false := by simpa using h1
    have H1 := Lib.hid h1
    rw [rightB_no1 h1]
    clear h1
    go_enter Try.func79, Try.ntmps79
    go_wp2_with fail
    refine (in1_any _ sy 0 255 false H1.out).mono ?_
    rintro e w1 ⟨rfl, rfl⟩
    go_wp2_with fail
    go_ret
    exact ⟨rfl, by with_reducible repeat (first | exact Fr.refl _ _ | assumption | apply Fr.drew | apply Fr.drewN | apply Fr.alloc | (apply Fr.step; assumption; (intro _ h; (first | exact h | (focus (simp_all; done))))) | (apply Fr.setIn; (first | exact List.mem_cons_self | exact List.mem_cons_of_mem _ List.mem_cons_self | exact List.mem_cons_of_mem _ (List.mem_cons_of_mem _ List.mem_cons_self) | exact List.mem_cons_of_mem _ (List.mem_cons_of_mem _ (List.mem_cons_of_mem _ List.mem_cons_self)))) | (apply Fr.setNew; (first | omega | (simp; omega))))⟩

set_option maxHeartbeats 4000000 in
theorem refRight_any (w : World) (k sy id ow sd ty pr qt fl : Int) :
    Calls Try.prog 83 #[.agg #[.int .i64 k, .int .i64 sy, .int .i64 id, .int .i64 ow, .int .i64 sd, .int .i64 ty, .int .i64 pr, .int .i64 qt, .int .i64 fl]] w fun e w' => e = .returned (.bool (rightB k sy id ow sd ty pr qt fl)) ∧ Fr [] w w' := by
  by_cases h1 : inB sy 0 255 = true
  · have H1 := Lib.hid h1
    by_cases h2 : inB id 0 4611686018427387904 = true
    · have H2 := Lib.hid h2
      clear h1 h2
      by_cases k1 : k = 1
      · subst k1
        rw [rightB_1 H1.out H2.out]
        generalize hb1 : inB ow 0 1073741824 = b1
        generalize hb2 : inB sd 0 1 = b2
        generalize hb3 : inB ty 1 5 = b3
        generalize hb4 : inB fl 0 7 = b4
        have HB := Lib.hid (And.intro hb1 (And.intro hb2 (And.intro hb3 hb4)))
        clear hb1 hb2 hb3 hb4
        rcases (show b1 = false ∨ (b1 = true ∧ b2 = false) ∨ (b1 = true ∧ b2 = true ∧ b3 = false) ∨ (b1 = true ∧ b2 = true ∧ b3 = true) by cases b1 <;> cases b2 <;> cases b3 <;> simp) with rfl | ⟨rfl, rfl⟩ | ⟨rfl, rfl, rfl⟩ | ⟨rfl, rfl, rfl⟩
        all_goals
          go_enter Try.func83, Try.ntmps83
          go_wp2_with fail
          refine (refIn_any _ sy 0 255 true H1.out).mono ?_
          rintro e w1 ⟨rfl, rfl⟩
          go_wp2_with fail
          refine (refIn_any _ id 0 4611686018427387904 true H2.out).mono ?_
          rintro e w1 ⟨rfl, rfl⟩
          go_wp2_with fail
          refine (refIn_any _ ow 0 1073741824 _ HB.out.1).mono ?_
          rintro e w1 ⟨rfl, rfl⟩
          go_wp2_with fail
          (first
            | (refine (refIn_any _ sd 0 1 _ HB.out.2.1).mono ?_
               rintro e w1 ⟨rfl, rfl⟩
               go_wp2_with fail)
            | skip)
          (first
            | (refine (refIn_any _ ty 1 5 _ HB.out.2.2.1).mono ?_
               rintro e w1 ⟨rfl, rfl⟩
               go_wp2_with fail)
            | skip)
          (first
            | (refine (refIn_any _ fl 0 7 _ HB.out.2.2.2).mono ?_
               rintro e w1 ⟨rfl, rfl⟩
               go_wp2_with fail)
            | skip)
          go_ret
          exact ⟨ret_bool (by simp), by with_reducible repeat (first | exact Fr.refl _ _ | assumption | apply Fr.drew | apply Fr.drewN | apply Fr.alloc | (apply Fr.step; assumption; (intro _ h; (first | exact h | (focus (simp_all; done))))) | (apply Fr.setIn; (first | exact List.mem_cons_self | exact List.mem_cons_of_mem _ List.mem_cons_self | exact List.mem_cons_of_mem _ (List.mem_cons_of_mem _ List.mem_cons_self) | exact List.mem_cons_of_mem _ (List.mem_cons_of_mem _ (List.mem_cons_of_mem _ List.mem_cons_self)))) | (apply Fr.setNew; (first | omega | (simp; omega))))⟩
      · have k1' : (k == 1) = false := by simpa using k1
        by_cases k3 : k = 3
        · subst k3
          clear k1 k1'
          rw [rightB_3 H1.out H2.out]
          go_enter Try.func83, Try.ntmps83
          go_wp2_with fail
          refine (refIn_any _ sy 0 255 true H1.out).mono ?_
          rintro e w1 ⟨rfl, rfl⟩
          go_wp2_with fail
          refine (refIn_any _ id 0 4611686018427387904 true H2.out).mono ?_
          rintro e w1 ⟨rfl, rfl⟩
          go_wp2_with fail
          all_goals
            go_ret
            exact ⟨ret_bool (by simp_all), by with_reducible repeat (first | exact Fr.refl _ _ | assumption | apply Fr.drew | apply Fr.drewN | apply Fr.alloc | (apply Fr.step; assumption; (intro _ h; (first | exact h | (focus (simp_all; done))))) | (apply Fr.setIn; (first | exact List.mem_cons_self | exact List.mem_cons_of_mem _ List.mem_cons_self | exact List.mem_cons_of_mem _ (List.mem_cons_of_mem _ List.mem_cons_self) | exact List.mem_cons_of_mem _ (List.mem_cons_of_mem _ (List.mem_cons_of_mem _ List.mem_cons_self)))) | (apply Fr.setNew; (first | omega | (simp; omega))))⟩
        · have k3' : (k == 3) = false := by simpa using k3
          by_cases k2 : k = 2
          · subst k2
            clear k1 k1' k3 k3'
            rw [rightB_2 H1.out H2.out]
            go_enter Try.func83, Try.ntmps83
            go_wp2_with fail
            refine (refIn_any _ sy 0 255 true H1.out).mono ?_
            rintro e w1 ⟨rfl, rfl⟩
            go_wp2_with fail
            refine (refIn_any _ id 0 4611686018427387904 true H2.out).mono ?_
            rintro e w1 ⟨rfl, rfl⟩
            go_wp2_with fail
            all_goals
              go_ret
              exact ⟨ret_bool (by simp_all), by with_reducible repeat (first | exact Fr.refl _ _ | assumption | apply Fr.drew | apply Fr.drewN | apply Fr.alloc | (apply Fr.step; assumption; (intro _ h; (first | exact h | (focus (simp_all; done))))) | (apply Fr.setIn; (first | exact List.mem_cons_self | exact List.mem_cons_of_mem _ List.mem_cons_self | exact List.mem_cons_of_mem _ (List.mem_cons_of_mem _ List.mem_cons_self) | exact List.mem_cons_of_mem _ (List.mem_cons_of_mem _ (List.mem_cons_of_mem _ List.mem_cons_self)))) | (apply Fr.setNew; (first | omega | (simp; omega))))⟩
          · have k2' : (k == 2) = false := by simpa using k2
            rw [rightB_else k1 k2 k3]
            clear k1 k2 k3
            go_enter Try.func83, Try.ntmps83
            go_wp2_with fail
            refine (refIn_any _ sy 0 255 true H1.out).mono ?_
            rintro e w1 ⟨rfl, rfl⟩
            go_wp2_with fail
            refine (refIn_any _ id 0 4611686018427387904 true H2.out).mono ?_
            rintro e w1 ⟨rfl, rfl⟩
            go_wp2_with fail
            go_ret
            exact ⟨rfl, by with_reducible repeat (first | exact Fr.refl _ _ | assumption | apply Fr.drew | apply Fr.drewN | apply Fr.alloc | (apply Fr.step; assumption; (intro _ h; (first | exact h | (focus (simp_all; done))))) | (apply Fr.setIn; (first | exact List.mem_cons_self | exact List.mem_cons_of_mem _ List.mem_cons_self | exact List.mem_cons_of_mem _ (List.mem_cons_of_mem _ List.mem_cons_self) | exact List.mem_cons_of_mem _ (List.mem_cons_of_mem _ (List.mem_cons_of_mem _ List.mem_cons_self)))) | (apply Fr.setNew; (first | omega | (simp; omega))))⟩
    · have h2 : inB id 0 4611686018427387904 = false := by simpa using h2
      have H2 := Lib.hid h2
      rw [rightB_no2 h2]
      clear h1 h2
      go_enter Try.func83, Try.ntmps83
      go_wp2_with fail
      refine (refIn_any _ sy 0 255 true H1.out).mono ?_
      rintro e w1 ⟨rfl, rfl⟩
      go_wp2_with fail
      refine (refIn_any _ id 0 4611686018427387904 false H2.out).mono ?_
      rintro e w1 ⟨rfl, rfl⟩
      go_wp2_with fail
      go_ret
      exact ⟨rfl, by with_reducible repeat (first | exact Fr.refl _ _ | assumption | apply Fr.drew | apply Fr.drewN | apply Fr.alloc | (apply Fr.step; assumption; (intro _ h; (first | exact h | (focus (simp_all; done))))) | (apply Fr.setIn; (first | exact List.mem_cons_self | exact List.mem_cons_of_mem _ List.mem_cons_self | exact List.mem_cons_of_mem _ (List.mem_cons_of_mem _ List.mem_cons_self) | exact List.mem_cons_of_mem _ (List.mem_cons_of_mem _ (List.mem_cons_of_mem _ List.mem_cons_self)))) | (apply Fr.setNew; (first | omega | (simp; omega))))⟩
  · have h1 : inB sy 0 255 = false := by simpa using h1
    have H1 := Lib.hid h1
    rw [rightB_no1 h1]
    clear h1
    go_enter Try.func83, Try.ntmps83
    go_wp2_with fail
    refine (refIn_any _ sy 0 255 false H1.out).mono ?_
    rintro e w1 ⟨rfl, rfl⟩
    go_wp2_with fail
    go_ret
    exact ⟨rfl, by with_reducible repeat (first | exact Fr.refl _ _ | assumption | apply Fr.drew | apply Fr.drewN | apply Fr.alloc | (apply Fr.step; assumption; (intro _ h; (first | exact h | (focus (simp_all; done))))) | (apply Fr.setIn; (first | exact List.mem_cons_self | exact List.mem_cons_of_mem _ List.mem_cons_self | exact List.mem_cons_of_mem _ (List.mem_cons_of_mem _ List.mem_cons_self) | exact List.mem_cons_of_mem _ (List.mem_cons_of_mem _ (List.mem_cons_of_mem _ List.mem_cons_self)))) | (apply Fr.setNew; (first | omega | (simp; omega))))⟩
end Go.Proofs.Ytgddmkgmpibpgaa
