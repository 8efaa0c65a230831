/- admit: new orders, walked. -/
import Derived.Test.YtgddmkgmpibpgaaAdmD
import Derived.Outline
namespace Go.Proofs.Ytgddmkgmpibpgaa
set_option linter.unusedVariables false
set_option linter.unusedSimpArgs false
open Go.RowKit Go.Shelf

def kindI (want k sy id ow sd ty pr qt fl : Int) : Int := if k == want && rightB k sy id ow sd ty pr qt fl then 0 else 4
def phaseI (p : Int) (stays : Bool) : Int := if matchesB p || (restsB p && stays) then 0 else 10
def staysB (ty : Int) : Bool := ty == 1 || ty == 5

theorem new1_any (w : World) (g : Nat) (k sy id ow sd ty pr qt fl : Int) (B : Blk w g 68 #[.int .i64 k, .int .i64 sy, .int .i64 id, .int .i64 ow, .int .i64 sd, .int .i64 ty, .int .i64 pr, .int .i64 qt, .int .i64 fl]) :
    Calls Try.prog 77 #[.pointer (some ⟨g, 0, none⟩)] w fun e w' => e = .returned (.int .i64 (kindI 1 k sy id ow sd ty pr qt fl)) ∧ Fr [] w w' := by
  have c := B.cell
  unfold kindI
  by_cases hk : k = 1
  · subst hk
    have HR := Lib.hid (right_any w 1 sy id ow sd ty pr qt fl)
    generalize rightB 1 sy id ow sd ty pr qt fl = b at HR ⊢
    cases b
    all_goals
      go_enter Try.func77, Try.ntmps77
      go_wp2_with fail
      refine HR.out.mono ?_
      rintro e w1 ⟨rfl, F1⟩
      go_wp2_with fail
      refine (unless_any _ _ 4).mono ?_
      rintro e w2 ⟨rfl, rfl⟩
      go_wp2_with fail
      go_ret
      exact ⟨rfl, F1⟩
  · have k1 : (k == 1) = false := by simpa using hk
    have e4 : (if (k == 1 && rightB k sy id ow sd ty pr qt fl) = true then (0 : Int) else 4) = 4 := by simp [k1]
    rw [e4]
    clear e4
    go_enter Try.func77, Try.ntmps77
    go_wp2_with fail
    refine (unless_any _ false 4).mono ?_
    rintro e w2 ⟨rfl, rfl⟩
    go_wp2_with fail
    go_ret
    exact ⟨rfl, Fr.refl _ _⟩

theorem new2_any (w : World) (g1 g2 : Nat) (p : Int) (s : Bool) (B1 : Blk w g1 3 #[.int .i64 p]) (B2 : Blk w g2 4 #[.bool s]) :
    Calls Try.prog 80 #[.pointer (some ⟨g1, 0, none⟩), .pointer (some ⟨g2, 0, none⟩)] w fun e w' => e = .returned (.int .i64 (phaseI p s)) ∧ Fr [] w w' := by
  have c1 := B1.cell
  have c2 := B2.cell
  unfold phaseI
  have HM := Lib.hid (matches_any w p)
  have HR := Lib.hid (rests_any w p)
  generalize matchesB p = m at HM ⊢
  generalize restsB p = r at HR ⊢
  rcases (show m = true ∨ (m = false ∧ r = false) ∨ (m = false ∧ r = true ∧ s = true) ∨ (m = false ∧ r = true ∧ s = false) by cases m <;> cases r <;> cases s <;> simp) with rfl | ⟨rfl, rfl⟩ | ⟨rfl, rfl, rfl⟩ | ⟨rfl, rfl, rfl⟩
  all_goals
    go_enter Try.func80, Try.ntmps80
    go_wp2_with fail
    refine HM.out.mono ?_
    rintro e w1 ⟨rfl, rfl⟩
    go_wp2_with fail
    (first
      | (refine HR.out.mono ?_
         rintro e w1 ⟨rfl, rfl⟩
         go_wp2_with fail)
      | skip)
    refine (unless_any _ _ 10).mono ?_
    rintro e w2 ⟨rfl, rfl⟩
    go_wp2_with fail
    go_ret
    exact ⟨ret_int (by simp), Fr.refl _ _⟩

theorem new3_any (w : World) (g1 g2 g3 : Nat) (cs : Array Value) (g : Int) (hs : IsSym cs g) (hg : In64 g) (on : Bool) (bid k sy id ow sd ty pr qt fl : Int) (hp : In64 pr) (B1 : Blk w g1 25 cs) (B2 : Blk w g2 28 #[.bool on, .int .i64 bid])
    (B3 : Blk w g3 68 #[.int .i64 k, .int .i64 sy, .int .i64 id, .int .i64 ow, .int .i64 sd, .int .i64 ty, .int .i64 pr, .int .i64 qt, .int .i64 fl]) :
    Calls Try.prog 81 #[.pointer (some ⟨g1, 0, none⟩), .pointer (some ⟨g2, 0, none⟩), .pointer (some ⟨g3, 0, none⟩)] w fun e w' => e = .returned (.int .i64 (valuesI g on bid sd pr qt fl (ty == 2))) ∧ Fr [] w w' := by
  have hsz := hs.size
  have HV := Lib.hid (fun w => values_any w cs g hs on bid id ow sd pr qt fl 0 (ty == 2) hp hg)
  clear hs hp hg
  go_enter Try.func81, Try.ntmps81
  go_wp2_with fail
  refine wp_region_soft (by kernel_rfl) (by kernel_rfl) ?_; (repeat (refine wpQuiet_step (fun K hK => ?_); (first | ((refine soft_row 25 _ g1 _ cs _ rfl rfl rfl (fun W hC => Blk.via hC (by simp) B1) Try.underlying25 rfl (by rw [hsz]; exact info_sym) ?_); go_simp; refine hK _ ?_; clear hK K) | (apply soft_do; (rfl); (focus (intro W hC; (have q2 := (Blk.via hC (by simp) B2).cell; have q3 := (Blk.via hC (by simp) B3).cell); go_simp; (first | (first | (go_at_call 38; refine (order_any _ k sy id ow sd ty pr qt fl 0).mono ?_; rintro e w2 ⟨rfl, hf⟩; exact ⟨rfl, hC.trans hf⟩) | (go_at_call 82; refine (HV.out _).mono ?_; rintro e w2 ⟨rfl, hf⟩; exact ⟨rfl, hC.trans hf⟩)) | done | rfl | exact ⟨rfl, rfl⟩))); (go_simp; refine hK _ ?_; clear hK K)) | (apply soft_skip; (rfl); (go_simp; refine hK _ ?_; clear hK K))))); refine wpQuiet_nil ?_
  intro w1 F1
  go_wp2_with fail
  go_ret
  exact ⟨rfl, F1⟩

/-- What is wrong first with a new order. -/
def newI (g p : Int) (on : Bool) (bid k sy id ow sd ty pr qt fl : Int) : Int :=
  if kindI 1 k sy id ow sd ty pr qt fl = 0 then if phaseI p (staysB ty) = 0 then valuesI g on bid sd pr qt fl (ty == 2) else phaseI p (staysB ty) else kindI 1 k sy id ow sd ty pr qt fl

theorem Blk.box5 {W u : World} {t : TypeId} {cs : Array Value} {o o' o'' o3 o4 : Obj} (h : W = (((((u.alloc (.cells cs t)).alloc o).alloc o').alloc o'').alloc o3).alloc o4) : Blk W u.heap.size t cs := by subst h; exact (((((Blk.new _ _ _).alloc _).alloc _).alloc _).alloc _).alloc _
theorem Blk.box6 {W u : World} {t : TypeId} {cs : Array Value} {o o' o'' o3 o4 o5 : Obj} (h : W = ((((((u.alloc (.cells cs t)).alloc o).alloc o').alloc o'').alloc o3).alloc o4).alloc o5) : Blk W u.heap.size t cs := by subst h; exact ((((((Blk.new _ _ _).alloc _).alloc _).alloc _).alloc _).alloc _).alloc _
set_option maxHeartbeats 1000000 in
theorem new_any' (w : World) (cs : Array Value) (g : Int) (hs : IsSym cs g) (hg : In64 g) (p : Int) (on : Bool) (bid k sy id ow sd ty pr qt fl : Int) (hp : In64 pr) :
    Calls Try.prog 35 #[.agg cs, .int .i64 p, .agg #[.bool on, .int .i64 bid], .agg #[.int .i64 k, .int .i64 sy, .int .i64 id, .int .i64 ow, .int .i64 sd, .int .i64 ty, .int .i64 pr, .int .i64 qt, .int .i64 fl]] w fun e w' => e = .returned (.int .i64 (newI g p on bid k sy id ow sd ty pr qt fl)) ∧ Fr [] w w' := by
  have hmf : ∀ (fn : Fn) (first cap : Array Value) (w : World), (Instr.makeFunc fn first cap).run Try.prog w = .ok (.func fn first cap) w := fun _ _ _ _ => rfl
  have HS := Lib.hid hs
  have HI := Lib.hid (And.intro hp hg)
  have hsz := hs.size
  obtain ⟨sb, hsb⟩ : ∃ b, staysB ty = b := ⟨_, rfl⟩
  have hres : firstI (pick3 (kindI 1 k sy id ow sd ty pr qt fl) (phaseI p sb) (valuesI g on bid sd pr qt fl (ty == 2))) 0 3 = newI g p on bid k sy id ow sd ty pr qt fl := by
    simp only [firstI, pick3, newI, hsb]
    by_cases h4 : valuesI g on bid sd pr qt fl (ty == 2) = 0
    · simp [h4]
    · simp [h4]
  have HRES := Lib.hid hres
  have HSB := Lib.hid hsb
  clear hres hsb
  clear hs hp hg
  rcases (show ty = 1 ∨ (ty == 1) = false by by_cases h : ty = 1 <;> simp [h]) with rfl | t1
  all_goals
    go_enter Try.func35, Try.ntmps35
    go_wp2_with fail
    refine calls_name (fun W hW => ?_)
    have B5 := Blk.box5 hW
    have B4 := Blk.box4 hW
    have B3 := Blk.box3 hW
    have B2 := Blk.box2 hW
    have B1 := Blk.box1 hW
    have B0 := Blk.box0 hW
    have F0 : Fr [] w W := Fr.eqv hW (by with_reducible repeat (first | exact Fr.refl _ _ | assumption | apply Fr.drew | apply Fr.drewN | apply Fr.alloc | (apply Fr.step; assumption; (intro _ h; (first | exact h | (focus (simp_all; done))))) | (apply Fr.setIn; (first | exact List.mem_cons_self | exact List.mem_cons_of_mem _ List.mem_cons_self | exact List.mem_cons_of_mem _ (List.mem_cons_of_mem _ List.mem_cons_self) | exact List.mem_cons_of_mem _ (List.mem_cons_of_mem _ (List.mem_cons_of_mem _ List.mem_cons_self)))) | (apply Fr.setNew; (first | omega | (simp; omega)))))
    simp only [World.size_alloc] at B4 B3 B2 B1 B0
    clear hW
    have B1 : Blk W (w.heap.size + 1 + 1 + 1 + 1) 4 #[.bool sb] := B1.cast (by rw [← HSB.out]; first | rfl | simp [staysB, t1])
    refine (first_any W (w.heap.size + 1 + 1 + 1 + 1 + 1) 3 _ (pick3 77 80 81)
      (pick3 #[.pointer (some ⟨w.heap.size + 1 + 1 + 1, 0, none⟩)] #[.pointer (some ⟨w.heap.size + 1, 0, none⟩), .pointer (some ⟨w.heap.size + 1 + 1 + 1 + 1, 0, none⟩)] #[.pointer (some ⟨w.heap.size, 0, none⟩), .pointer (some ⟨w.heap.size + 1 + 1, 0, none⟩), .pointer (some ⟨w.heap.size + 1 + 1 + 1, 0, none⟩)])
      (pick3 (kindI 1 k sy id ow sd _ pr qt fl) (phaseI p sb) (valuesI g on bid sd pr qt fl (_ == 2))) B0 (by omega) (forall3 rfl rfl rfl)
      (forall3 (enters_of Try.func77 (by kernel_rfl) rfl) (enters_of Try.func80 (by kernel_rfl) rfl) (enters_of Try.func81 (by kernel_rfl) rfl))
      (forall3 (fun _ w' F => new1_any w' _ k sy id ow sd _ pr qt fl (Blk.via F (by simp) B2))
        (fun _ w' F => new2_any w' _ _ p _ (Blk.via F (by simp) B4) (Blk.via F (by simp) B1))
        (fun _ w' F => new3_any w' _ _ _ cs g HS.out HI.out.2 on bid k sy id ow sd _ pr qt fl HI.out.1 (Blk.via F (by simp) B5) (Blk.via F (by simp) B3) (Blk.via F (by simp) B2)))).mono ?_
    rw [HRES.out]
    rintro e w1 ⟨rfl, F1⟩
    clear B0 B1 B2 B3 B4 B5
    go_wp2_with fail
    go_ret
    exact ⟨rfl, F0.trans F1⟩

set_option maxHeartbeats 2000000 in
theorem refNew_any' (w : World) (cs : Array Value) (g : Int) (hs : IsSym cs g) (hg : In64 g) (p : Int) (on : Bool) (bid k sy id ow sd ty pr qt fl : Int) (hp : In64 pr) :
    Calls Try.prog 37 #[.agg cs, .int .i64 p, .agg #[.bool on, .int .i64 bid], .agg #[.int .i64 k, .int .i64 sy, .int .i64 id, .int .i64 ow, .int .i64 sd, .int .i64 ty, .int .i64 pr, .int .i64 qt, .int .i64 fl]] w fun e w' => e = .returned (.int .i64 (newI g p on bid k sy id ow sd ty pr qt fl)) ∧ Fr [] w w' := by
  have hsz := hs.size
  have HR := Lib.hid (fun w => refRight_any w k sy id ow sd ty pr qt fl)
  have HV := Lib.hid (fun w => refValues_any w cs g hs on bid id ow sd pr qt fl 0 (ty == 2) hp hg)
  have HM := Lib.hid (fun w => refMatches_any w p)
  have HT := Lib.hid (fun w => refRests_any w p)
  clear hs hp hg
  unfold newI kindI
  generalize rightB k sy id ow sd ty pr qt fl = rb at HR ⊢
  rcases (show rb = false ∨ (rb = true ∧ (k == 1) = false ∧ (k != 1) = true) ∨ (rb = true ∧ k = 1) by cases rb <;> by_cases c : k = 1 <;> simp [c]) with rfl | ⟨rfl, k1, k2⟩ | ⟨rfl, rfl⟩
  · simp only [Bool.and_false, Bool.false_eq_true, if_false]
    rw [if_neg (by omega)]
    go_enter Try.func37, Try.ntmps37
    go_wp2_with fail
    refine (HR.out _).mono ?_
    rintro e w1 ⟨rfl, F1⟩
    go_wp2_with fail
    go_ret
    exact ⟨rfl, by with_reducible repeat (first | exact Fr.refl _ _ | assumption | apply Fr.drew | apply Fr.drewN | apply Fr.alloc | (apply Fr.step; assumption; (intro _ h; (first | exact h | (focus (simp_all; done))))) | (apply Fr.setIn; (first | exact List.mem_cons_self | exact List.mem_cons_of_mem _ List.mem_cons_self | exact List.mem_cons_of_mem _ (List.mem_cons_of_mem _ List.mem_cons_self) | exact List.mem_cons_of_mem _ (List.mem_cons_of_mem _ (List.mem_cons_of_mem _ List.mem_cons_self)))) | (apply Fr.setNew; (first | omega | (simp; omega))))⟩
  · simp only [k1, Bool.false_and, Bool.false_eq_true, if_false]
    rw [if_neg (by omega)]
    go_enter Try.func37, Try.ntmps37
    go_wp2_with fail
    refine (HR.out _).mono ?_
    rintro e w1 ⟨rfl, F1⟩
    have q1 := F1.cell
    go_wp2_with fail
    go_ret
    exact ⟨rfl, by with_reducible repeat (first | exact Fr.refl _ _ | assumption | apply Fr.drew | apply Fr.drewN | apply Fr.alloc | (apply Fr.step; assumption; (intro _ h; (first | exact h | (focus (simp_all; done))))) | (apply Fr.setIn; (first | exact List.mem_cons_self | exact List.mem_cons_of_mem _ List.mem_cons_self | exact List.mem_cons_of_mem _ (List.mem_cons_of_mem _ List.mem_cons_self) | exact List.mem_cons_of_mem _ (List.mem_cons_of_mem _ (List.mem_cons_of_mem _ List.mem_cons_self)))) | (apply Fr.setNew; (first | omega | (simp; omega))))⟩
  · simp only [BEq.rfl, Bool.and_self, if_true]
    unfold phaseI
    generalize matchesB p = m at HM ⊢
    generalize restsB p = r at HT ⊢
    have hc : (m = true ∨ (m = false ∧ r = true ∧ ty = 1) ∨ (m = false ∧ r = true ∧ (ty == 1) = false ∧ ty = 5)) ∨ ((m = false ∧ r = false) ∨ (m = false ∧ r = true ∧ (ty == 1) = false ∧ (ty == 5) = false)) := by
      cases m <;> cases r <;> by_cases c : ty = 1 <;> by_cases d : ty = 5 <;> simp [c, d]
    rcases hc with hc | hc
    · have e0 : (m || r && staysB ty) = true := by
        rcases hc with rfl | ⟨rfl, rfl, rfl⟩ | ⟨rfl, rfl, _, rfl⟩ <;> simp [staysB]
      rw [e0]
      simp only [if_true]
      clear e0
      rcases hc with rfl | ⟨rfl, rfl, rfl⟩ | ⟨rfl, rfl, t1, rfl⟩
      all_goals
        go_enter Try.func37, Try.ntmps37
        go_wp2_with fail
        refine (HR.out _).mono ?_
        rintro e w1 ⟨rfl, F1⟩
        have q1 := F1.cell
        go_wp2_with fail
        refine (HM.out _).mono ?_
        rintro e w2 ⟨rfl, rfl⟩
        go_wp2_with fail
        (first
          | (refine (HT.out _).mono ?_
             rintro e w2 ⟨rfl, rfl⟩
             go_wp2_with fail)
          | skip)
        refine wp_name (fun W hW => ?_)
        have F0 : Fr [] w W := Fr.eqv hW (by with_reducible repeat (first | exact Fr.refl _ _ | assumption | apply Fr.drew | apply Fr.drewN | apply Fr.alloc | (apply Fr.step; assumption; (intro _ h; (first | exact h | (focus (simp_all; done))))) | (apply Fr.setIn; (first | exact List.mem_cons_self | exact List.mem_cons_of_mem _ List.mem_cons_self | exact List.mem_cons_of_mem _ (List.mem_cons_of_mem _ List.mem_cons_self) | exact List.mem_cons_of_mem _ (List.mem_cons_of_mem _ (List.mem_cons_of_mem _ List.mem_cons_self)))) | (apply Fr.setNew; (first | omega | (simp; omega)))))
        have G : Fr [] (((w.alloc (.cells cs 25)).alloc (.cells #[.bool on, .int .i64 bid] 23)).alloc (.cells #[.int .i64 1, .int .i64 sy, .int .i64 id, .int .i64 ow, .int .i64 sd, .int .i64 _, .int .i64 pr, .int .i64 qt, .int .i64 fl] 68)) W := Fr.eqv hW F1
        have B1 : Blk W w.heap.size 25 cs := Blk.via G (by simp) (Blk.box2 rfl)
        have B2 := Blk.via G (by simp) (Blk.box1 rfl)
        have B3 := Blk.via G (by simp) (Blk.box0 rfl)
        simp only [World.size_alloc] at B2 B3
        clear hW q1 F1 G
        refine wp_region_soft (by kernel_rfl) (by kernel_rfl) ?_; (repeat (refine wpQuiet_step (fun K hK => ?_); (first | ((refine soft_row 25 _ w.heap.size _ cs _ rfl rfl rfl (fun W hC => Blk.via hC (by simp) B1) Try.underlying25 rfl (by rw [hsz]; exact info_sym) ?_); go_simp; refine hK _ ?_; clear hK K) | (apply soft_do; (rfl); (focus (intro W hC; (have q2 := (Blk.via hC (by simp) B2).cell; have q3 := (Blk.via hC (by simp) B3).cell); go_simp; (first | (first | (go_at_call 39; refine (refOrder_any _ 1 sy id ow sd _ pr qt fl 0).mono ?_; rintro e w2 ⟨rfl, hf⟩; exact ⟨rfl, hC.trans hf⟩) | (go_at_call 84; refine (HV.out _).mono ?_; rintro e w2 ⟨rfl, hf⟩; exact ⟨rfl, hC.trans hf⟩)) | done | rfl | exact ⟨rfl, rfl⟩))); (go_simp; refine hK _ ?_; clear hK K)) | (apply soft_skip; (rfl); (go_simp; refine hK _ ?_; clear hK K))))); refine wpQuiet_nil ?_
        intro w5 F5
        go_wp2_with fail
        go_ret
        exact ⟨rfl, F0.trans F5⟩
    · have e0 : (m || r && staysB ty) = false := by
        rcases hc with ⟨rfl, rfl⟩ | ⟨rfl, rfl, h1, h2⟩
        · simp
        · simp [staysB, h1, h2]
      rw [e0]
      simp only [Bool.false_eq_true, if_false]
      rw [if_neg (by omega)]
      clear e0
      rcases hc with ⟨rfl, rfl⟩ | ⟨rfl, rfl, t1, t2⟩
      all_goals
        go_enter Try.func37, Try.ntmps37
        go_wp2_with fail
        refine (HR.out _).mono ?_
        rintro e w1 ⟨rfl, F1⟩
        have q1 := F1.cell
        go_wp2_with fail
        refine (HM.out _).mono ?_
        rintro e w2 ⟨rfl, rfl⟩
        go_wp2_with fail
        refine (HT.out _).mono ?_
        rintro e w2 ⟨rfl, rfl⟩
        go_wp2_with fail
        go_ret
        exact ⟨rfl, by with_reducible repeat (first | exact Fr.refl _ _ | assumption | apply Fr.drew | apply Fr.drewN | apply Fr.alloc | (apply Fr.step; assumption; (intro _ h; (first | exact h | (focus (simp_all; done))))) | (apply Fr.setIn; (first | exact List.mem_cons_self | exact List.mem_cons_of_mem _ List.mem_cons_self | exact List.mem_cons_of_mem _ (List.mem_cons_of_mem _ List.mem_cons_self) | exact List.mem_cons_of_mem _ (List.mem_cons_of_mem _ (List.mem_cons_of_mem _ List.mem_cons_self)))) | (apply Fr.setNew; (first | omega | (simp; omega))))⟩
end Go.Proofs.Ytgddmkgmpibpgaa
