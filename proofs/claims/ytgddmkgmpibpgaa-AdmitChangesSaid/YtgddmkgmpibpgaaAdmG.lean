/- Changes of an order, walked: the program's and the document's. -/
import Derived.Test.YtgddmkgmpibpgaaAdmE
import Derived.Outline
namespace Go.Proofs.Ytgddmkgmpibpgaa
set_option linter.unusedVariables false
set_option linter.unusedSimpArgs false
open Go.RowKit Go.Shelf

theorem repl1_any (w : World) (g : Nat) (k sy id ow sd ty pr qt fl : Int) (B : Blk w g 68 #[.int .i64 k, .int .i64 sy, .int .i64 id, .int .i64 ow, .int .i64 sd, .int .i64 ty, .int .i64 pr, .int .i64 qt, .int .i64 fl]) :
    Calls Try.prog 86 #[.pointer (some ⟨g, 0, none⟩)] w fun e w' => e = .returned (.int .i64 (kindI 3 k sy id ow sd ty pr qt fl)) ∧ Fr [] w w' := by
  have c := B.cell
  unfold kindI
  by_cases hk : k = 3
  · subst hk
    have HR := Lib.hid (right_any w 3 sy id ow sd ty pr qt fl)
    generalize rightB 3 sy id ow sd ty pr qt fl = b at HR ⊢
    cases b
    all_goals
      go_enter Try.func86, Try.ntmps86
      go_wp2_with fail
      refine HR.out.mono ?_
      rintro e w1 ⟨rfl, F1⟩
      go_wp2_with fail
      refine (unless_any _ _ 4).mono ?_
      rintro e w2 ⟨rfl, rfl⟩
      go_wp2_with fail
      go_ret
      exact ⟨rfl, F1⟩
  · have k1 : (k == 3) = false := by simpa using hk
    have e4 : (if (k == 3 && rightB k sy id ow sd ty pr qt fl) = true then (0 : Int) else 4) = 4 := by simp [k1]
    rw [e4]
    clear e4
    go_enter Try.func86, Try.ntmps86
    go_wp2_with fail
    refine (unless_any _ false 4).mono ?_
    rintro e w2 ⟨rfl, rfl⟩
    go_wp2_with fail
    go_ret
    exact ⟨rfl, Fr.refl _ _⟩

theorem repl2_any (w : World) (g1 : Nat) (p : Int) (B1 : Blk w g1 3 #[.int .i64 p]) :
    Calls Try.prog 87 #[.pointer (some ⟨g1, 0, none⟩)] w fun e w' => e = .returned (.int .i64 (phaseI p true)) ∧ Fr [] w w' := by
  have c1 := B1.cell
  unfold phaseI
  have HM := Lib.hid (matches_any w p)
  have HR := Lib.hid (rests_any w p)
  generalize matchesB p = m at HM ⊢
  generalize restsB p = r at HR ⊢
  rcases (show m = true ∨ (m = false ∧ r = false) ∨ (m = false ∧ r = true) by cases m <;> cases r <;> simp) with rfl | ⟨rfl, rfl⟩ | ⟨rfl, rfl⟩
  all_goals
    go_enter Try.func87, Try.ntmps87
    go_wp2_with fail
    refine HM.out.mono ?_
    rintro e w1 ⟨rfl, rfl⟩
    go_wp2_with fail
    (first
      | (refine HR.out.mono ?_
         rintro e w1 ⟨rfl, rfl⟩
         go_wp2_with fail)
      | skip)
    refine (unless_any _ _ 10).mono ?_
    rintro e w2 ⟨rfl, rfl⟩
    go_wp2_with fail
    go_ret
    exact ⟨ret_int (by simp), Fr.refl _ _⟩

theorem repl3_any (w : World) (g1 g2 g3 : Nat) (cs : Array Value) (g : Int) (hs : IsSym cs g) (hg : In64 g) (on : Bool) (bid id ow sd pr qt fl sq : Int) (hp : In64 pr) (B1 : Blk w g1 25 cs) (B2 : Blk w g2 28 #[.bool on, .int .i64 bid])
    (B3 : Blk w g3 32 (ordA id ow sd pr qt fl sq)) :
    Calls Try.prog 88 #[.pointer (some ⟨g1, 0, none⟩), .pointer (some ⟨g2, 0, none⟩), .pointer (some ⟨g3, 0, none⟩)] w fun e w' => e = .returned (.int .i64 (valuesI g on bid sd pr qt fl false)) ∧ Fr [] w w' := by
  have hsz := hs.size
  have HV := Lib.hid (values_any w cs g hs on bid id ow sd pr qt fl sq false hp hg)
  have c2 := B2.cell
  have c3 := B3.cell
  unfold ordA at c3
  clear hs hp hg B2 B3
  go_enter Try.func88, Try.ntmps88
  go_wp2_with (refine wpList_loadSym rfl (.tmp 0) rfl g1 rfl cs B1 hsz ?_)
  refine HV.out.mono ?_
  rintro e w1 ⟨rfl, F1⟩
  go_wp2_with fail
  go_ret
  exact ⟨rfl, F1⟩

/-- What is wrong first with a change of an order. -/
def replI (g p : Int) (on : Bool) (bid osd ofl k sy id ow sd ty pr qt fl : Int) : Int :=
  if kindI 3 k sy id ow sd ty pr qt fl = 0 then if phaseI p true = 0 then valuesI g on bid osd pr qt ofl false else phaseI p true else kindI 3 k sy id ow sd ty pr qt fl

set_option maxHeartbeats 1000000 in
theorem repl_any (w : World) (cs : Array Value) (g : Int) (hs : IsSym cs g) (hg : In64 g) (p : Int) (on : Bool) (bid oid oow osd opr oqt ofl osq k sy id ow sd ty pr qt fl : Int) (hp : In64 pr) :
    Calls Try.prog 45 #[.agg cs, .int .i64 p, .agg #[.bool on, .int .i64 bid], .agg #[.int .i64 oid, .int .i64 oow, .int .i64 osd, .int .i64 opr, .int .i64 oqt, .int .i64 ofl, .int .i64 osq], .agg #[.int .i64 k, .int .i64 sy, .int .i64 id, .int .i64 ow, .int .i64 sd, .int .i64 ty, .int .i64 pr, .int .i64 qt, .int .i64 fl]] w fun e w' => e = .returned (.int .i64 (replI g p on bid osd ofl k sy id ow sd ty pr qt fl)) ∧ Fr [] w w' := by
  have hmf : ∀ (fn : Fn) (first cap : Array Value) (w : World), (Instr.makeFunc fn first cap).run Try.prog w = .ok (.func fn first cap) w := fun _ _ _ _ => rfl
  have HS := Lib.hid hs
  have HI := Lib.hid (And.intro hp hg)
  have hsz := hs.size
  have hres : firstI (pick3 (kindI 3 k sy id ow sd ty pr qt fl) (phaseI p true) (valuesI g on bid osd pr qt ofl false)) 0 3 = replI g p on bid osd ofl k sy id ow sd ty pr qt fl := by
    simp only [firstI, pick3, replI]
    by_cases h4 : valuesI g on bid osd pr qt ofl false = 0
    · simp [h4]
    · simp [h4]
  have HRES := Lib.hid hres
  clear hres
  clear hs hp hg
  go_enter Try.func45, Try.ntmps45
  go_wp2_with fail
  refine wp_name (fun W hW => ?_)
  have B5 := Blk.box5 hW
  have B4 := Blk.box4 hW
  have B3 := Blk.box3 hW
  have B1 := Blk.box1 hW
  have B0 := Blk.box0 hW
  have F0 : Fr [] w W := Fr.eqv hW (by with_reducible repeat (first | exact Fr.refl _ _ | assumption | apply Fr.drew | apply Fr.drewN | apply Fr.alloc | (apply Fr.step; assumption; (intro _ h; (first | exact h | (focus (simp_all; done))))) | (apply Fr.setIn; (first | exact List.mem_cons_self | exact List.mem_cons_of_mem _ List.mem_cons_self | exact List.mem_cons_of_mem _ (List.mem_cons_of_mem _ List.mem_cons_self) | exact List.mem_cons_of_mem _ (List.mem_cons_of_mem _ (List.mem_cons_of_mem _ List.mem_cons_self)))) | (apply Fr.setNew; (first | omega | (simp; omega)))))
  simp only [World.size_alloc] at B4 B3 B1 B0
  have l0 := B0.lt
  have c1 := B1.cell
  have c0 := B0.cell
  have f0 := B0.frozen
  clear hW
  go_region
  generalize hW2 : World.drew _ = W2
  have D0 : Blk W2 (w.heap.size + 1 + 1 + 1 + 1 + 1) 32 (ordA oid oow osd pr qt ofl osq) := by
    subst hW2
    exact (((B0.same 3 _).same 4 _).drew).cast rfl
  have G : ∀ {g' : Nat} {t' : TypeId} {cs' : Array Value}, Blk W g' t' cs' → g' ≠ w.heap.size + 1 + 1 + 1 + 1 + 1 → Blk W2 g' t' cs' := by
    intro g' t' cs' h hne
    subst hW2
    exact ((h.off hne).off hne).drew
  have D5 := G B5 (by omega)
  have D4 := G B4 (by omega)
  have D3 := G B3 (by omega)
  have D1 := G B1 (by omega)
  have F2 : Fr [] w W2 := by subst hW2; exact ((F0.setNew (by omega)).setNew (by omega)).drew
  clear G hW2 B0 B1 B3 B4 B5 l0 c1 c0 f0 F0
  go_wp2_with fail
  refine calls_name (fun W3 hW => ?_)
  have FB : Fr [] W2 W3 := Fr.eqv hW (by with_reducible repeat (first | exact Fr.refl _ _ | assumption | apply Fr.drew | apply Fr.drewN | apply Fr.alloc | (apply Fr.step; assumption; (intro _ h; (first | exact h | (focus (simp_all; done))))) | (apply Fr.setIn; (first | exact List.mem_cons_self | exact List.mem_cons_of_mem _ List.mem_cons_self | exact List.mem_cons_of_mem _ (List.mem_cons_of_mem _ List.mem_cons_self) | exact List.mem_cons_of_mem _ (List.mem_cons_of_mem _ (List.mem_cons_of_mem _ List.mem_cons_self)))) | (apply Fr.setNew; (first | omega | (simp; omega)))))
  have A0 := Blk.box0 hW
  have E0 := Blk.via FB (by simp) D0
  have E1 := Blk.via FB (by simp) D1
  have E3 := Blk.via FB (by simp) D3
  have E4 := Blk.via FB (by simp) D4
  have E5 := Blk.via FB (by simp) D5
  clear hW D0 D1 D3 D4 D5
  refine (first_any W3 W2.heap.size 3 _ (pick3 86 87 88)
    (pick3 #[.pointer (some ⟨w.heap.size + 1 + 1 + 1 + 1, 0, none⟩)] #[.pointer (some ⟨w.heap.size + 1, 0, none⟩)] #[.pointer (some ⟨w.heap.size, 0, none⟩), .pointer (some ⟨w.heap.size + 1 + 1, 0, none⟩), .pointer (some ⟨w.heap.size + 1 + 1 + 1 + 1 + 1, 0, none⟩)])
    (pick3 (kindI 3 k sy id ow sd ty pr qt fl) (phaseI p true) (valuesI g on bid osd pr qt ofl false)) A0 (by omega) (forall3 rfl rfl rfl)
    (forall3 (enters_of Try.func86 (by kernel_rfl) rfl) (enters_of Try.func87 (by kernel_rfl) rfl) (enters_of Try.func88 (by kernel_rfl) rfl))
    (forall3 (fun _ w' F => repl1_any w' _ k sy id ow sd ty pr qt fl (Blk.via F (by simp) E1))
      (fun _ w' F => repl2_any w' _ p (Blk.via F (by simp) E4))
      (fun _ w' F => repl3_any w' _ _ _ cs g HS.out HI.out.2 on bid oid oow osd pr qt ofl osq HI.out.1 (Blk.via F (by simp) E5) (Blk.via F (by simp) E3) (Blk.via F (by simp) E0)))).mono ?_
  rw [HRES.out]
  rintro e w1 ⟨rfl, F1⟩
  clear A0 E0 E1 E3 E4 E5
  go_wp2_with fail
  go_ret
  exact ⟨rfl, (F2.trans FB).trans F1⟩

theorem keeps_any (w : World) (oid oow osd opr oqt ofl osq k sy id ow sd ty pr qt fl : Int) : Calls Try.prog 47 #[.agg #[.int .i64 oid, .int .i64 oow, .int .i64 osd, .int .i64 opr, .int .i64 oqt, .int .i64 ofl, .int .i64 osq], .agg #[.int .i64 k, .int .i64 sy, .int .i64 id, .int .i64 ow, .int .i64 sd, .int .i64 ty, .int .i64 pr, .int .i64 qt, .int .i64 fl]] w fun e w' => e = .returned (.bool (pr == opr && (decide (1 ≤ qt) && decide (qt ≤ oqt)))) ∧ Fr [] w w' := by
  rcases (show (pr = opr ∧ 0 < qt ∧ 1 ≤ qt ∧ qt ≤ oqt) ∨ (pr = opr ∧ 0 < qt ∧ 1 ≤ qt ∧ ¬ qt ≤ oqt) ∨ (pr = opr ∧ ¬ 0 < qt ∧ ¬ 1 ≤ qt) ∨ (pr == opr) = false by
    by_cases h : pr = opr <;> simp [h] <;> omega) with ⟨rfl, h0, h1, h2⟩ | ⟨rfl, h0, h1, h2⟩ | ⟨rfl, h0, h1⟩ | h
  all_goals
    go_enter Try.func47, Try.ntmps47
    go_wp2_with fail
    go_ret
    refine ⟨?_, by with_reducible repeat (first | exact Fr.refl _ _ | assumption | apply Fr.drew | apply Fr.drewN | apply Fr.alloc | (apply Fr.step; assumption; (intro _ h; (first | exact h | (focus (simp_all; done))))) | (apply Fr.setIn; (first | exact List.mem_cons_self | exact List.mem_cons_of_mem _ List.mem_cons_self | exact List.mem_cons_of_mem _ (List.mem_cons_of_mem _ List.mem_cons_self) | exact List.mem_cons_of_mem _ (List.mem_cons_of_mem _ (List.mem_cons_of_mem _ List.mem_cons_self)))) | (apply Fr.setNew; (first | omega | (simp; omega))))⟩
    simp [*] <;> omega

theorem refKeeps_any (w : World) (oid oow osd opr oqt ofl osq k sy id ow sd ty pr qt fl : Int) : Calls Try.prog 48 #[.agg #[.int .i64 oid, .int .i64 oow, .int .i64 osd, .int .i64 opr, .int .i64 oqt, .int .i64 ofl, .int .i64 osq], .agg #[.int .i64 k, .int .i64 sy, .int .i64 id, .int .i64 ow, .int .i64 sd, .int .i64 ty, .int .i64 pr, .int .i64 qt, .int .i64 fl]] w fun e w' => e = .returned (.bool (pr == opr && (decide (1 ≤ qt) && decide (qt ≤ oqt)))) ∧ Fr [] w w' := by
  rcases (show (pr = opr ∧ 1 ≤ qt ∧ qt ≤ oqt) ∨ (pr = opr ∧ 1 ≤ qt ∧ ¬ qt ≤ oqt) ∨ (pr = opr ∧ ¬ 1 ≤ qt) ∨ (pr == opr) = false by
    by_cases h : pr = opr <;> simp [h] <;> omega) with ⟨rfl, h1, h2⟩ | ⟨rfl, h1, h2⟩ | ⟨rfl, h1⟩ | h
  all_goals
    go_enter Try.func48, Try.ntmps48
    go_wp2_with fail
    go_ret
    refine ⟨?_, by with_reducible repeat (first | exact Fr.refl _ _ | assumption | apply Fr.drew | apply Fr.drewN | apply Fr.alloc | (apply Fr.step; assumption; (intro _ h; (first | exact h | (focus (simp_all; done))))) | (apply Fr.setIn; (first | exact List.mem_cons_self | exact List.mem_cons_of_mem _ List.mem_cons_self | exact List.mem_cons_of_mem _ (List.mem_cons_of_mem _ List.mem_cons_self) | exact List.mem_cons_of_mem _ (List.mem_cons_of_mem _ (List.mem_cons_of_mem _ List.mem_cons_self)))) | (apply Fr.setNew; (first | omega | (simp; omega))))⟩
    simp [*] <;> omega

def cancelI (p : Int) : Int := if 1 ≤ p ∧ p ≤ 5 then 0 else 10
theorem cancel_any (w : World) (p : Int) : Calls Try.prog 49 #[.int .i64 p] w fun e w' => e = .returned (.int .i64 (cancelI p)) ∧ Fr [] w w' := by
  unfold cancelI
  rcases (show (0 < p ∧ p ≤ 5) ∨ (0 < p ∧ ¬ p ≤ 5) ∨ (¬ 0 < p) by omega) with ⟨h1, h2⟩ | ⟨h1, h2⟩ | h1
  all_goals
    go_enter Try.func49, Try.ntmps49
    go_wp2_with fail
    refine (unless_any _ _ 10).mono ?_
    rintro e w2 ⟨rfl, rfl⟩
    go_wp2_with fail
    go_ret
    refine ⟨ret_int ?_, Fr.refl _ _⟩
    first | rfl | (split <;> omega) | (simp <;> omega) | (exfalso; omega)
theorem refCancel_any (w : World) (p : Int) : Calls Try.prog 50 #[.int .i64 p] w fun e w' => e = .returned (.int .i64 (cancelI p)) ∧ Fr [] w w' := by
  unfold cancelI
  rcases (show (p < 1) ∨ (¬ p < 1 ∧ 5 < p) ∨ (¬ p < 1 ∧ ¬ 5 < p) by omega) with h1 | ⟨h1, h2⟩ | ⟨h1, h2⟩
  all_goals
    go_enter Try.func50, Try.ntmps50
    go_wp2_with fail
    go_ret
    refine ⟨ret_int ?_, Fr.refl _ _⟩
    first | rfl | (split <;> omega) | (simp <;> omega) | (exfalso; omega)
end Go.Proofs.Ytgddmkgmpibpgaa
