/- Words and contracts: MatchC MatchD MatchE MatchF MatchG MatchH MatchI. -/
import Derived.Outline
import Derived.Shelf.Abstract
import Derived.Test.YtkimldeagndgjaaG5
import Derived.Test.YtkimldeagndgjaaG9
import Derived.Test.YtkimldeagndgjaaG10
/- Whether what is left rests (match.rests), walked. -/
namespace Go.Proofs.Ytkimldeagndgjaa
set_option linter.unusedVariables false
set_option linter.unusedSimpArgs false
open Go.RowKit

def metB (s ed : Int) : Option Int → Bool
  | none => true
  | some p => betterB s p ed
/-- Would an entry rest, with what a plan leaves? -/
def restsB (e : Entr) (Y : List Ord) (fs : List Fil) (left stop : Int) : Bool :=
  !(left == 0 || stop == 3 || !staysB e || decide (edgeV e < 1) || decide (1099511627776 < edgeV e) || beyondB e (edgeV e)) && metB e.o.sd (edgeV e) (meetL Y fs)

set_option maxHeartbeats 4000000 in
set_option maxRecDepth 5000 in
theorem rests_any (w : World) (b N K : Nat) (D : List Nat) (L : List Ord) (h : BookI w b D N K L) (e : Entr) (hs : e.o.sd = 0 ∨ e.o.sd = 1) (Y : List Ord) (hY : OfL (1 - e.o.sd) L Y) (v : Value) (left stop : Int) (fs : List Fil) (hR : RowF w v fs) (hl : fs.length ≤ 10000) :
    Calls Try.prog 113 #[.agg e.a, .pointer (some ⟨b, 0, none⟩), .agg #[v, .int .i64 left, .int .i64 stop]] w fun r w' => r = .returned (.bool (restsB e Y fs left stop)) ∧ Fr [] w w' := by
  have hrest : restsB e Y fs left stop = (!(left == 0 || stop == 3 || !staysB e || decide (edgeV e < 1) || decide (1099511627776 < edgeV e) || beyondB e (edgeV e)) && metB e.o.sd (edgeV e) (meetL Y fs)) := rfl
  generalize restsB e Y fs left stop = V at hrest ⊢
  have HM := Lib.hid (fun W (hf : Fr [] w W) => meets_any W b N K D L (h.fr hf (by simp)) e.o.sd hs Y hY v left stop fs (hR.fr hf (by simp)) hl)
  have HEd := Lib.hid (fun W => edge_any W e)
  have HSt := Lib.hid (fun W => stays_any W e)
  generalize meetL Y fs = mt at HM hrest
  generalize hed : edgeV e = ed at HEd hrest
  generalize staysB e = st at HSt hrest
  have HBy := Lib.hid (fun W => beyond_any W e ed)
  generalize beyondB e ed = bb at HBy hrest
  obtain ⟨A, c, rfl, _⟩ := hR.form
  clear h hs hY hR hed
  by_cases k1 : left = 0
  · have HV : Hid (V = false) := Lib.hid (by rw [hrest]; simp [k1])
    subst k1
    clear hrest
    go_enter Try.func113, Try.ntmps113
    go_wp2_with fail
    refine calls_named (fun W0 hW => ?_)
    have B0 : Blk W0 w.heap.size 102 e.a := Blk.box1 hW
    have C0 := Blk.box0 hW
    have F0 : Fr [] w W0 := Fr.eqv hW (by with_reducible repeat (first | exact Fr.refl _ _ | assumption | apply Fr.drew | apply Fr.drewN | apply Fr.alloc | (apply Fr.step; assumption; (intro _ h; (first | exact h | (focus (simp_all; done))))) | (apply Fr.setIn; (first | exact List.mem_cons_self | exact List.mem_cons_of_mem _ List.mem_cons_self | exact List.mem_cons_of_mem _ (List.mem_cons_of_mem _ List.mem_cons_self) | exact List.mem_cons_of_mem _ (List.mem_cons_of_mem _ (List.mem_cons_of_mem _ List.mem_cons_self)))) | (apply Fr.setNew; (first | omega | (simp; omega)))))
    simp only [World.size_alloc] at C0
    clear hW
    refine (HEd.out W0).mono ?_
    rintro r w1 ⟨rfl, F1⟩
    have F01 := F0.trans F1
    have B1 := Blk.via F1 (by simp) B0
    have C1 := Blk.via F1 (by simp) C0
    have c1 := B1.cell
    have d1 := C1.cell
    clear B0 C0 F0 F1
    go_wp2_with fail
    go_ret
    exact ⟨by rw [HV.out]; rfl, F01⟩
  have k1' : (left == 0) = false := by simpa using k1
  by_cases k2 : stop = 3
  · have HV : Hid (V = false) := Lib.hid (by rw [hrest]; simp [k2])
    subst k2
    clear hrest k1
    go_enter Try.func113, Try.ntmps113
    go_wp2_with fail
    refine calls_named (fun W0 hW => ?_)
    have B0 : Blk W0 w.heap.size 102 e.a := Blk.box1 hW
    have C0 := Blk.box0 hW
    have F0 : Fr [] w W0 := Fr.eqv hW (by with_reducible repeat (first | exact Fr.refl _ _ | assumption | apply Fr.drew | apply Fr.drewN | apply Fr.alloc | (apply Fr.step; assumption; (intro _ h; (first | exact h | (focus (simp_all; done))))) | (apply Fr.setIn; (first | exact List.mem_cons_self | exact List.mem_cons_of_mem _ List.mem_cons_self | exact List.mem_cons_of_mem _ (List.mem_cons_of_mem _ List.mem_cons_self) | exact List.mem_cons_of_mem _ (List.mem_cons_of_mem _ (List.mem_cons_of_mem _ List.mem_cons_self)))) | (apply Fr.setNew; (first | omega | (simp; omega)))))
    simp only [World.size_alloc] at C0
    clear hW
    refine (HEd.out W0).mono ?_
    rintro r w1 ⟨rfl, F1⟩
    have F01 := F0.trans F1
    have B1 := Blk.via F1 (by simp) B0
    have C1 := Blk.via F1 (by simp) C0
    have c1 := B1.cell
    have d1 := C1.cell
    clear B0 C0 F0 F1
    go_wp2_with fail
    go_ret
    exact ⟨by rw [HV.out]; rfl, F01⟩
  have k2' : (stop == 3) = false := by simpa using k2
  rw [k1', k2'] at hrest
  clear k1 k2
  cases st
  · have HV : Hid (V = false) := Lib.hid (by rw [hrest]; simp)
    clear hrest
    go_enter Try.func113, Try.ntmps113
    go_wp2_with fail
    refine calls_named (fun W0 hW => ?_)
    have B0 : Blk W0 w.heap.size 102 e.a := Blk.box1 hW
    have C0 := Blk.box0 hW
    have F0 : Fr [] w W0 := Fr.eqv hW (by with_reducible repeat (first | exact Fr.refl _ _ | assumption | apply Fr.drew | apply Fr.drewN | apply Fr.alloc | (apply Fr.step; assumption; (intro _ h; (first | exact h | (focus (simp_all; done))))) | (apply Fr.setIn; (first | exact List.mem_cons_self | exact List.mem_cons_of_mem _ List.mem_cons_self | exact List.mem_cons_of_mem _ (List.mem_cons_of_mem _ List.mem_cons_self) | exact List.mem_cons_of_mem _ (List.mem_cons_of_mem _ (List.mem_cons_of_mem _ List.mem_cons_self)))) | (apply Fr.setNew; (first | omega | (simp; omega)))))
    simp only [World.size_alloc] at C0
    clear hW
    refine (HEd.out W0).mono ?_
    rintro r w1 ⟨rfl, F1⟩
    have F01 := F0.trans F1
    have B1 := Blk.via F1 (by simp) B0
    have C1 := Blk.via F1 (by simp) C0
    have c1 := B1.cell
    have d1 := C1.cell
    clear B0 C0 F0 F1
    go_wp2_with fail
    refine (HSt.out _).mono ?_
    rintro r w2 ⟨rfl, F2⟩
    have F02 := F01.trans F2
    have B2 := Blk.via F2 (by simp) B1
    have C2 := Blk.via F2 (by simp) C1
    have c2 := B2.cell
    have d2 := C2.cell
    clear c1 d1 B1 C1 F2 F01
    go_wp2_with fail
    go_ret
    exact ⟨by rw [HV.out]; rfl, F02⟩
  by_cases k4 : ed < 1
  · have HV : Hid (V = false) := Lib.hid (by rw [hrest]; simp [k4])
    clear hrest
    go_enter Try.func113, Try.ntmps113
    go_wp2_with fail
    refine calls_named (fun W0 hW => ?_)
    have B0 : Blk W0 w.heap.size 102 e.a := Blk.box1 hW
    have C0 := Blk.box0 hW
    have F0 : Fr [] w W0 := Fr.eqv hW (by with_reducible repeat (first | exact Fr.refl _ _ | assumption | apply Fr.drew | apply Fr.drewN | apply Fr.alloc | (apply Fr.step; assumption; (intro _ h; (first | exact h | (focus (simp_all; done))))) | (apply Fr.setIn; (first | exact List.mem_cons_self | exact List.mem_cons_of_mem _ List.mem_cons_self | exact List.mem_cons_of_mem _ (List.mem_cons_of_mem _ List.mem_cons_self) | exact List.mem_cons_of_mem _ (List.mem_cons_of_mem _ (List.mem_cons_of_mem _ List.mem_cons_self)))) | (apply Fr.setNew; (first | omega | (simp; omega)))))
    simp only [World.size_alloc] at C0
    clear hW
    refine (HEd.out W0).mono ?_
    rintro r w1 ⟨rfl, F1⟩
    have F01 := F0.trans F1
    have B1 := Blk.via F1 (by simp) B0
    have C1 := Blk.via F1 (by simp) C0
    have c1 := B1.cell
    have d1 := C1.cell
    clear B0 C0 F0 F1
    go_wp2_with fail
    refine (HSt.out _).mono ?_
    rintro r w2 ⟨rfl, F2⟩
    have F02 := F01.trans F2
    have B2 := Blk.via F2 (by simp) B1
    have C2 := Blk.via F2 (by simp) C1
    have c2 := B2.cell
    have d2 := C2.cell
    clear c1 d1 B1 C1 F2 F01
    go_wp2_with fail
    go_ret
    exact ⟨by rw [HV.out]; rfl, F02⟩
  by_cases k5 : 1099511627776 < ed
  · have HV : Hid (V = false) := Lib.hid (by rw [hrest]; simp [k5])
    clear hrest
    go_enter Try.func113, Try.ntmps113
    go_wp2_with fail
    refine calls_named (fun W0 hW => ?_)
    have B0 : Blk W0 w.heap.size 102 e.a := Blk.box1 hW
    have C0 := Blk.box0 hW
    have F0 : Fr [] w W0 := Fr.eqv hW (by with_reducible repeat (first | exact Fr.refl _ _ | assumption | apply Fr.drew | apply Fr.drewN | apply Fr.alloc | (apply Fr.step; assumption; (intro _ h; (first | exact h | (focus (simp_all; done))))) | (apply Fr.setIn; (first | exact List.mem_cons_self | exact List.mem_cons_of_mem _ List.mem_cons_self | exact List.mem_cons_of_mem _ (List.mem_cons_of_mem _ List.mem_cons_self) | exact List.mem_cons_of_mem _ (List.mem_cons_of_mem _ (List.mem_cons_of_mem _ List.mem_cons_self)))) | (apply Fr.setNew; (first | omega | (simp; omega)))))
    simp only [World.size_alloc] at C0
    clear hW
    refine (HEd.out W0).mono ?_
    rintro r w1 ⟨rfl, F1⟩
    have F01 := F0.trans F1
    have B1 := Blk.via F1 (by simp) B0
    have C1 := Blk.via F1 (by simp) C0
    have c1 := B1.cell
    have d1 := C1.cell
    clear B0 C0 F0 F1
    go_wp2_with fail
    refine (HSt.out _).mono ?_
    rintro r w2 ⟨rfl, F2⟩
    have F02 := F01.trans F2
    have B2 := Blk.via F2 (by simp) B1
    have C2 := Blk.via F2 (by simp) C1
    have c2 := B2.cell
    have d2 := C2.cell
    clear c1 d1 B1 C1 F2 F01
    go_wp2_with fail
    go_ret
    exact ⟨by rw [HV.out]; rfl, F02⟩
  cases bb
  · have hrest : V = metB e.o.sd ed mt := by rw [hrest]; simp [k4, k5]
    have HV := Lib.hid hrest
    clear hrest
    go_enter Try.func113, Try.ntmps113
    go_wp2_with fail
    refine calls_named (fun W0 hW => ?_)
    have B0 : Blk W0 w.heap.size 102 e.a := Blk.box1 hW
    have C0 := Blk.box0 hW
    have F0 : Fr [] w W0 := Fr.eqv hW (by with_reducible repeat (first | exact Fr.refl _ _ | assumption | apply Fr.drew | apply Fr.drewN | apply Fr.alloc | (apply Fr.step; assumption; (intro _ h; (first | exact h | (focus (simp_all; done))))) | (apply Fr.setIn; (first | exact List.mem_cons_self | exact List.mem_cons_of_mem _ List.mem_cons_self | exact List.mem_cons_of_mem _ (List.mem_cons_of_mem _ List.mem_cons_self) | exact List.mem_cons_of_mem _ (List.mem_cons_of_mem _ (List.mem_cons_of_mem _ List.mem_cons_self)))) | (apply Fr.setNew; (first | omega | (simp; omega)))))
    simp only [World.size_alloc] at C0
    clear hW
    refine (HEd.out W0).mono ?_
    rintro r w1 ⟨rfl, F1⟩
    have F01 := F0.trans F1
    have B1 := Blk.via F1 (by simp) B0
    have C1 := Blk.via F1 (by simp) C0
    have c1 := B1.cell
    have d1 := C1.cell
    clear B0 C0 F0 F1
    go_wp2_with fail
    refine (HSt.out _).mono ?_
    rintro r w2 ⟨rfl, F2⟩
    have F02 := F01.trans F2
    have B2 := Blk.via F2 (by simp) B1
    have C2 := Blk.via F2 (by simp) C1
    have c2 := B2.cell
    have d2 := C2.cell
    clear c1 d1 B1 C1 F2 F01
    go_wp2_with fail
    refine (HBy.out _).mono ?_
    rintro r w3 ⟨rfl, F3⟩
    have F03 := F02.trans F3
    have B3 := Blk.via F3 (by simp) B2
    have C3 := Blk.via F3 (by simp) C2
    have c3 := B3.cell
    have d3 := C3.cell
    clear c2 d2 B2 C2 F3 F02
    go_wp2_with fail
    refine (HM.out _ F03).mono ?_
    rintro r w4 ⟨rfl, F4⟩
    have c4 := (Blk.via F4 (by simp) B3).cell
    clear c3 d3
    cases mt with
    | none =>
      simp only [Option.getD_none, Option.isSome_none]
      go_wp2_with fail
      go_ret
      exact ⟨by rw [HV.out]; rfl, F03.trans F4⟩
    | some p =>
      simp only [Option.getD_some, Option.isSome_some]
      go_wp2_with fail
      refine (better_any _ e.o.sd p ed).mono ?_
      rintro r w5 ⟨rfl, rfl⟩
      go_wp2_with fail
      go_ret
      exact ⟨by rw [HV.out]; rfl, F03.trans F4⟩
  · have HV : Hid (V = false) := Lib.hid (by rw [hrest]; simp)
    clear hrest
    go_enter Try.func113, Try.ntmps113
    go_wp2_with fail
    refine calls_named (fun W0 hW => ?_)
    have B0 : Blk W0 w.heap.size 102 e.a := Blk.box1 hW
    have C0 := Blk.box0 hW
    have F0 : Fr [] w W0 := Fr.eqv hW (by with_reducible repeat (first | exact Fr.refl _ _ | assumption | apply Fr.drew | apply Fr.drewN | apply Fr.alloc | (apply Fr.step; assumption; (intro _ h; (first | exact h | (focus (simp_all; done))))) | (apply Fr.setIn; (first | exact List.mem_cons_self | exact List.mem_cons_of_mem _ List.mem_cons_self | exact List.mem_cons_of_mem _ (List.mem_cons_of_mem _ List.mem_cons_self) | exact List.mem_cons_of_mem _ (List.mem_cons_of_mem _ (List.mem_cons_of_mem _ List.mem_cons_self)))) | (apply Fr.setNew; (first | omega | (simp; omega)))))
    simp only [World.size_alloc] at C0
    clear hW
    refine (HEd.out W0).mono ?_
    rintro r w1 ⟨rfl, F1⟩
    have F01 := F0.trans F1
    have B1 := Blk.via F1 (by simp) B0
    have C1 := Blk.via F1 (by simp) C0
    have c1 := B1.cell
    have d1 := C1.cell
    clear B0 C0 F0 F1
    go_wp2_with fail
    refine (HSt.out _).mono ?_
    rintro r w2 ⟨rfl, F2⟩
    have F02 := F01.trans F2
    have B2 := Blk.via F2 (by simp) B1
    have C2 := Blk.via F2 (by simp) C1
    have c2 := B2.cell
    have d2 := C2.cell
    clear c1 d1 B1 C1 F2 F01
    go_wp2_with fail
    refine (HBy.out _).mono ?_
    rintro r w3 ⟨rfl, F3⟩
    have F03 := F02.trans F3
    have B3 := Blk.via F3 (by simp) B2
    have C3 := Blk.via F3 (by simp) C2
    have c3 := B3.cell
    have d3 := C3.cell
    clear c2 d2 B2 C2 F3 F02
    go_wp2_with fail
    go_ret
    exact ⟨by rw [HV.out]; rfl, F03⟩
end Go.Proofs.Ytkimldeagndgjaa

/- The fault of the first question that is so; whether a side is reached; room by the list of orders: walked. -/
namespace Go.Proofs.Ytkimldeagndgjaa
set_option linter.unusedVariables false
set_option linter.unusedSimpArgs false
open Go.RowKit Go.Shelf

def firstQ (q : Nat → Bool) (f : Nat → Int) : Nat → Nat → Int
  | _, 0 => 0
  | i, n + 1 => if q i = true then f i else firstQ q f (i + 1) n
set_option maxHeartbeats 1000000 in
theorem mfirst_any (w : World) (g m : Nat) (cs : Array Value) (id : Nat → Nat) (env : Nat → Array Value) (q : Nat → Bool) (f : Nat → Int) (B : Blk w g 230 cs) (hm : m ≤ 10) (hc : ∀ i, i < m → cs[i * 2]? = some (.func (.func (id i)) #[] (env i)) ∧ cs[i * 2 + 1]? = some (.int .i64 (f i)))
    (he : ∀ i, i < m → ∀ args w, (callFunc (id i) args).run Try.prog w = .ok (.enter (id i) args) w)
    (hcall : ∀ i, i < m → (∀ j, j < i → q j = false) → ∀ w', Fr [] w w' → Calls Try.prog (id i) (env i) w' fun e w'' => e = .returned (.bool (q i)) ∧ Fr [] w' w'') :
    Calls Try.prog 146 #[.slice (some ⟨g, 0, none⟩) m m] w fun e w' => e = .returned (.int .i64 (firstQ q f 0 m)) ∧ Fr [] w w' := by
  have hst : ∀ (a : Addr) (fn : Fn) (first cap : Array Value) (w : World), (store a (.func fn first cap)).run Try.prog w = stored Try.prog w a (.func fn first cap) .plain := fun a fn first cap w => run_store Try.prog w a _ .plain rfl
  have HC := Lib.hid hc
  have HE := Lib.hid he
  have HK := Lib.hid hcall
  have m1 : (m : Int) ≤ 10 := by omega
  clear hc he hcall
  go_enter Try.func146, Try.ntmps146
  go_wp2_with fail
  go_loopw [7] (fun s7 wr => ∃ i : Nat, i ≤ m ∧ s7 = .int .i64 i ∧ Fr [] w wr ∧ (∀ j, j < i → q j = false) ∧ firstQ q f 0 m = firstQ q f i (m - i)) (fun s7 _ => m - (intOf s7).toNat)
  case atStart => exact ⟨0, by omega, rfl, Fr.refl _ _, fun j hj => by omega, rfl⟩
  case round =>
    obtain ⟨i, hi, rfl, F, hz, hf⟩ := hrel
    have HZ := Lib.hid hz
    have HF := Lib.hid hf
    clear hz hf
    have i0 : (0 : Int) ≤ (i : Int) := by omega
    by_cases hlt : i < m
    · have i1 : (i : Int) < (m : Int) := by omega
      have x0 : wr.cell? ⟨g, i * 2, none⟩ = some (.func (.func (id i)) #[] (env i)) := ((Blk.via F (by simp) B).cell (i * 2)).trans (HC.out i hlt).1
      have x1 : wr.cell? ⟨g, i * 2 + 1, none⟩ = some (.int .i64 (f i)) := ((Blk.via F (by simp) B).cell (i * 2 + 1)).trans (HC.out i hlt).2
      have hent := HE.out i hlt
      have HKi := Lib.hid (HK.out i hlt HZ.out)
      have hstep : firstQ q f i (m - i) = if q i = true then f i else firstQ q f (i + 1) (m - (i + 1)) := by
        rw [show m - i = (m - (i + 1)) + 1 by omega]; rfl
      have HS := Lib.hid hstep
      clear hstep
      go_wp2_with fail
      refine calls_named (fun W2 hW => ?_)
      have B2 := Blk.box0 hW
      have F2 : Fr [] wr W2 := Fr.eqv hW (by with_reducible repeat (first | exact Fr.refl _ _ | assumption | apply Fr.drew | apply Fr.drewN | apply Fr.alloc | (apply Fr.step; assumption; (intro _ h; (first | exact h | (focus (simp_all; done))))) | (apply Fr.setIn; (first | exact List.mem_cons_self | exact List.mem_cons_of_mem _ List.mem_cons_self | exact List.mem_cons_of_mem _ (List.mem_cons_of_mem _ List.mem_cons_self) | exact List.mem_cons_of_mem _ (List.mem_cons_of_mem _ (List.mem_cons_of_mem _ List.mem_cons_self)))) | (apply Fr.setNew; (first | omega | (simp; omega)))))
      clear hW x0 x1
      refine (HKi.out W2 (F.trans F2)).mono ?_
      rintro e w1 ⟨rfl, F1⟩
      have c2 := (Blk.via F1 (by simp) B2).cell
      have F3 := (F.trans F2).trans F1
      clear hent B2
      cases hv : q i
      · have HV := Lib.hid hv
        clear hv
        go_wp2_with fail
        go_roundw
        case rel =>
          refine ⟨i + 1, by omega, by simp, F3, fun j hj => ?_, by rw [HF.out, HS.out, if_neg (by rw [HV.out]; decide)]⟩
          rcases (show j < i ∨ j = i by omega) with h | rfl
          · exact HZ.out j h
          · exact HV.out
        case measure => simp [intOf]; omega
      · have HV := Lib.hid hv
        clear hv
        go_wp2_with fail
        go_ret
        exact ⟨ret_int (by rw [HF.out, HS.out, if_pos HV.out]), F3⟩
    · obtain rfl : m = i := by omega
      go_wp2_with fail
      go_ret
      exact ⟨ret_int (by rw [HF.out, Nat.sub_self]; rfl), F⟩

theorem bookRoom (w : World) (b : Nat) (D : List Nat) (N K : Nat) (L : List Ord) (h : BookI w b D N K L) (s : Int) (hs : s = 0 ∨ s = 1) (p : Int) (hp : In63 p) :
    Calls Try.prog 46 #[.pointer (some ⟨b, 0, none⟩), .int .i64 s, .int .i64 p] w fun e w' => e = .returned (.bool (fitsB s p L K && decide (L.length < N))) ∧ Fr [] w w' := by
  obtain ⟨ba, bi, bs, bm, l0, q0, n0, e0, l1, q1, n1, e1, v0, v1, fl, m, ix, T, ord, hr, rfl, rfl⟩ := h
  refine bkRoom w b ba bi bs bm l0 q0 n0 e0 l1 q1 n1 e1 v0 v1 N K fl m ix T ord hr s hs p hp _ ?_
  rw [Bool.and_eq_true, decide_eq_true_iff, fitsB_iff, List.length_map]

/-- Is a side's best price reached? -/
def reachB (s lim : Int) (Y : List Ord) : Bool := !Y.isEmpty && !worseB s (bestP Y) lim
set_option maxHeartbeats 1000000 in
theorem reaches_any (w : World) (b : Nat) (D : List Nat) (N K : Nat) (L : List Ord) (h : BookI w b D N K L) (s : Int) (hs : s = 0 ∨ s = 1) (lim : Int) (Y : List Ord) (hY : OfL (1 - s) L Y) :
    Calls Try.prog 14 #[.pointer (some ⟨b, 0, none⟩), .int .i64 s, .int .i64 lim] w fun e w' => e = .returned (.bool (reachB s lim Y)) ∧ Fr [] w w' := by
  have ho := fun W => other_any W s
  have e1 : IntKind.i64.wrap (1 - s) = 1 - s := IntWalk.i64_in _ (by omega)
  have e2 : isSide s = true := by unfold isSide; rcases hs with e | e <;> rw [e] <;> rfl
  rw [e1, e2] at ho
  have HO := Lib.hid ho
  have HB := Lib.hid (bookBest_any w b D N K L h (1 - s) (by omega) Y hY)
  clear ho e1 e2 h hY hs
  unfold reachB
  cases Y with
  | nil =>
    simp only [List.isEmpty_nil, Bool.not_true, Bool.false_and] at HB ⊢
    generalize bestP [] = z at HB
    go_enter Try.func14, Try.ntmps14
    go_wp2_with fail
    refine (HO.out _).mono ?_
    rintro e w1 ⟨rfl, rfl⟩
    go_wp2_with fail
    refine HB.out.mono ?_
    rintro e w1 ⟨rfl, F1⟩
    go_wp2_with fail
    go_ret
    exact ⟨rfl, F1⟩
  | cons o r =>
    simp only [List.isEmpty_cons, Bool.not_false, Bool.true_and] at HB ⊢
    generalize bestP (o :: r) = z at HB ⊢
    go_enter Try.func14, Try.ntmps14
    go_wp2_with fail
    refine (HO.out _).mono ?_
    rintro e w1 ⟨rfl, rfl⟩
    go_wp2_with fail
    refine HB.out.mono ?_
    rintro e w1 ⟨rfl, F1⟩
    go_wp2_with fail
    refine (worse_any _ s z lim).mono ?_
    rintro e w2 ⟨rfl, rfl⟩
    go_wp2_with fail
    go_ret
    exact ⟨rfl, F1⟩
end Go.Proofs.Ytkimldeagndgjaa

/- What is wrong with an order that comes (match.Check), walked. -/
namespace Go.Proofs.Ytkimldeagndgjaa
set_option linter.unusedVariables false
set_option linter.unusedSimpArgs false
open Go.RowKit Go.Shelf

def badB (e : Entr) : Bool := !(e.o.sd == 0 || e.o.sd == 1) || decide (e.ty < 1) || decide (5 < e.ty)
def rngB (e : Entr) : Bool := !(qtyI e.o.qt == 0) || rangedB e
def idB (e : Entr) (L : List Ord) : Bool := L.any (fun x => decide (x.id = e.o.id))
def crossB (e : Entr) (Y : List Ord) : Bool := e.ty == 5 && reachB e.o.sd e.o.pr Y
def noneB (e : Entr) (Y : List Ord) : Bool := e.ty == 4 && decide (0 < (mkL (takOf e) Y [] e.o.qt).2.1)
def fullB (e : Entr) (N K : Nat) (L Y : List Ord) : Bool := restsB e Y (mkL (takOf e) Y [] e.o.qt).1 (mkL (takOf e) Y [] e.o.qt).2.1 (mkL (takOf e) Y [] e.o.qt).2.2 && !(fitsB e.o.sd (edgeV e) L K && decide (L.length < N))

theorem chk1_any (w : World) (g1 g2 g3 b : Nat) (e : Entr) (B1 : Blk w g1 24 #[.pointer (some ⟨b, 0, none⟩)]) (B2 : Blk w g2 43 e.o.a) (B3 : Blk w g3 102 e.a) :
    Calls Try.prog 147 #[.pointer (some ⟨g1, 0, none⟩), .pointer (some ⟨g2, 0, none⟩), .pointer (some ⟨g3, 0, none⟩)] w fun r w' => r = .returned (.bool (badB e)) ∧ Fr [] w w' := by
  have c1 := B1.cell
  have c2 := B2.cell
  have c3 := B3.cell
  have HV : ∀ V, V = badB e → Hid (badB e = V) := fun V h => Lib.hid h.symm
  unfold badB at HV ⊢
  rcases (show (e.o.sd == 0) = true ∨ ((e.o.sd == 0) = false ∧ (e.o.sd == 1) = true) ∨ ((e.o.sd == 0) = false ∧ (e.o.sd == 1) = false) by cases (e.o.sd == 0) <;> cases (e.o.sd == 1) <;> simp) with a0 | ⟨a0, a1⟩ | ⟨a0, a1⟩
  · by_cases a2 : e.ty < 1
    · have hv : (!(e.o.sd == 0 || e.o.sd == 1) || decide (e.ty < 1) || decide (5 < e.ty)) = true := by simp [a2]
      rw [hv]
      have a3 : (e.o.sd != 0) = false := by rw [bne, a0]; rfl
      clear hv HV
      go_enter Try.func147, Try.ntmps147
      go_wp2_with fail
      go_ret
      exact ⟨rfl, Fr.refl _ _⟩
    · have hv : (!(e.o.sd == 0 || e.o.sd == 1) || decide (e.ty < 1) || decide (5 < e.ty)) = decide (5 < e.ty) := by rw [a0]; simp [a2]
      rw [hv]
      have a3 : (e.o.sd != 0) = false := by rw [bne, a0]; rfl
      clear hv HV
      go_enter Try.func147, Try.ntmps147
      go_wp2_with fail
      go_ret
      exact ⟨rfl, Fr.refl _ _⟩
  · by_cases a2 : e.ty < 1
    · have hv : (!(e.o.sd == 0 || e.o.sd == 1) || decide (e.ty < 1) || decide (5 < e.ty)) = true := by simp [a2]
      rw [hv]
      have a3 : (e.o.sd != 0) = true := by rw [bne, a0]; rfl
      have a4 : (e.o.sd != 1) = false := by rw [bne, a1]; rfl
      clear hv HV
      go_enter Try.func147, Try.ntmps147
      go_wp2_with fail
      go_ret
      exact ⟨rfl, Fr.refl _ _⟩
    · have hv : (!(e.o.sd == 0 || e.o.sd == 1) || decide (e.ty < 1) || decide (5 < e.ty)) = decide (5 < e.ty) := by rw [a0, a1]; simp [a2]
      rw [hv]
      have a3 : (e.o.sd != 0) = true := by rw [bne, a0]; rfl
      have a4 : (e.o.sd != 1) = false := by rw [bne, a1]; rfl
      clear hv HV
      go_enter Try.func147, Try.ntmps147
      go_wp2_with fail
      go_ret
      exact ⟨rfl, Fr.refl _ _⟩
  · have hv : (!(e.o.sd == 0 || e.o.sd == 1) || decide (e.ty < 1) || decide (5 < e.ty)) = true := by rw [a0, a1]; rfl
    rw [hv]
    have a3 : (e.o.sd != 0) = true := by rw [bne, a0]; rfl
    have a4 : (e.o.sd != 1) = true := by rw [bne, a1]; rfl
    clear hv HV
    go_enter Try.func147, Try.ntmps147
    go_wp2_with fail
    go_ret
    exact ⟨rfl, Fr.refl _ _⟩

theorem chk2_any (w : World) (g2 g3 : Nat) (e : Entr) (hp : In64 e.o.pr) (B2 : Blk w g2 43 e.o.a) (B3 : Blk w g3 102 e.a) :
    Calls Try.prog 148 #[.pointer (some ⟨g2, 0, none⟩), .pointer (some ⟨g3, 0, none⟩)] w fun r w' => r = .returned (.bool (rngB e)) ∧ Fr [] w w' := by
  have c2 := B2.cell
  have HQ := Lib.hid (fun W => qty_any W e.o.qt)
  have HR := Lib.hid (fun W => ranged_any W e hp)
  unfold rngB
  by_cases h : qtyI e.o.qt = 0
  · have h' : (qtyI e.o.qt == 0) = true := by simpa using h
    have h2 : (qtyI e.o.qt != 0) = false := by simp [h]
    rw [h', Bool.not_true, Bool.false_or]
    generalize rangedB e = rb at HR ⊢
    generalize qtyI e.o.qt = qq at HQ h2
    clear h h'
    go_enter Try.func148, Try.ntmps148
    go_wp2_with fail
    refine (HQ.out _).mono ?_
    rintro r w1 ⟨rfl, F1⟩
    have c3 := (Blk.via F1 (by simp) B3).cell
    go_wp2_with fail
    refine (HR.out _).mono ?_
    rintro r w2 ⟨rfl, F2⟩
    go_wp2_with fail
    go_ret
    exact ⟨rfl, F1.trans F2⟩
  · have h' : (qtyI e.o.qt == 0) = false := by simpa using h
    have h2 : (qtyI e.o.qt != 0) = true := by simpa using h
    rw [h', Bool.not_false, Bool.true_or]
    generalize qtyI e.o.qt = qq at HQ h2
    clear h h'
    go_enter Try.func148, Try.ntmps148
    go_wp2_with fail
    refine (HQ.out _).mono ?_
    rintro r w1 ⟨rfl, F1⟩
    go_wp2_with fail
    go_ret
    exact ⟨rfl, F1⟩

theorem find_none' {L : List Ord} {id : Int} (h : L.find? (fun x => decide (x.id = id)) = none) : ∀ x ∈ L, x.id ≠ id := fun x hx e => by
  have := List.find?_eq_none.1 h x hx
  simp [e] at this
theorem find_some' {L : List Ord} {id : Int} {x : Ord} (h : L.find? (fun x => decide (x.id = id)) = some x) : x ∈ L ∧ x.id = id := ⟨List.mem_of_find?_eq_some h, by have := List.find?_some h; simpa using this⟩
theorem bookGet_any (w : World) (b : Nat) (D : List Nat) (N K : Nat) (L : List Ord) (h : BookI w b D N K L) (id : Int) :
    Calls Try.prog 27 #[.pointer (some ⟨b, 0, none⟩), .int .i64 id] w fun e w' => e = .returned (.tuple #[.agg ((L.find? fun x => decide (x.id = id)).getD ord0).a, .bool (L.find? fun x => decide (x.id = id)).isSome]) ∧ Fr [] w w' := by
  cases hf : L.find? (fun x => decide (x.id = id)) with
  | none => exact bookGet_no w b D N K L h id (find_none' hf)
  | some x =>
    obtain ⟨h1, h2⟩ := find_some' hf
    rw [← h2]
    exact bookGet_has w b D N K L h x h1
theorem any_find {L : List Ord} {id : Int} : (L.find? fun x => decide (x.id = id)).isSome = L.any (fun x => decide (x.id = id)) := by
  rw [Bool.eq_iff_iff, List.find?_isSome, List.any_eq_true]

theorem chk3_any (w : World) (g1 g2 b : Nat) (D : List Nat) (N K : Nat) (L : List Ord) (h : BookI w b D N K L) (e : Entr) (B1 : Blk w g1 24 #[.pointer (some ⟨b, 0, none⟩)]) (B2 : Blk w g2 43 e.o.a) :
    Calls Try.prog 150 #[.pointer (some ⟨g1, 0, none⟩), .pointer (some ⟨g2, 0, none⟩)] w fun r w' => r = .returned (.bool (idB e L)) ∧ Fr [] w w' := by
  have c1 := B1.cell
  have c2 := B2.cell
  have hg := bookGet_any w b D N K L h e.o.id
  rw [any_find] at hg
  unfold idB
  generalize (L.any fun x => decide (x.id = e.o.id)) = V at hg ⊢
  generalize (L.find? fun x => decide (x.id = e.o.id)).getD ord0 = x at hg
  have HG := Lib.hid hg
  clear hg h
  go_enter Try.func150, Try.ntmps150
  go_wp2_with fail
  refine HG.out.mono ?_
  rintro r w1 ⟨rfl, F1⟩
  go_wp2_with fail
  go_ret
  exact ⟨rfl, by with_reducible repeat (first | exact Fr.refl _ _ | assumption | apply Fr.drew | apply Fr.drewN | apply Fr.alloc | (apply Fr.step; assumption; (intro _ h; (first | exact h | (focus (simp_all; done))))) | (apply Fr.setIn; (first | exact List.mem_cons_self | exact List.mem_cons_of_mem _ List.mem_cons_self | exact List.mem_cons_of_mem _ (List.mem_cons_of_mem _ List.mem_cons_self) | exact List.mem_cons_of_mem _ (List.mem_cons_of_mem _ (List.mem_cons_of_mem _ List.mem_cons_self)))) | (apply Fr.setNew; (first | omega | (simp; omega))))⟩

theorem chk4_any (w : World) (g1 g2 g3 b : Nat) (D : List Nat) (N K : Nat) (L : List Ord) (h : BookI w b D N K L) (e : Entr) (hs : e.o.sd = 0 ∨ e.o.sd = 1) (Y : List Ord) (hY : OfL (1 - e.o.sd) L Y) (B1 : Blk w g1 24 #[.pointer (some ⟨b, 0, none⟩)]) (B2 : Blk w g2 43 e.o.a) (B3 : Blk w g3 102 e.a) :
    Calls Try.prog 151 #[.pointer (some ⟨g3, 0, none⟩), .pointer (some ⟨g1, 0, none⟩), .pointer (some ⟨g2, 0, none⟩)] w fun r w' => r = .returned (.bool (crossB e Y)) ∧ Fr [] w w' := by
  have c1 := B1.cell
  have c2 := B2.cell
  have c3 := B3.cell
  have HG := Lib.hid (reaches_any w b D N K L h e.o.sd hs e.o.pr Y hY)
  unfold crossB
  generalize reachB e.o.sd e.o.pr Y = V at HG ⊢
  clear h hs hY
  cases ht : (e.ty == 5)
  · go_enter Try.func151, Try.ntmps151
    go_wp2_with fail
    go_ret
    exact ⟨rfl, Fr.refl _ _⟩
  · go_enter Try.func151, Try.ntmps151
    go_wp2_with fail
    refine HG.out.mono ?_
    rintro r w1 ⟨rfl, F1⟩
    go_wp2_with fail
    go_ret
    exact ⟨rfl, F1⟩

set_option maxRecDepth 5000 in
theorem chk5_any (w : World) (g1 g3 b : Nat) (D : List Nat) (N K : Nat) (L : List Ord) (h : BookI w b D N K L) (e : Entr) (hs : e.o.sd = 0 ∨ e.o.sd = 1) (hq : 1 ≤ e.o.qt ∧ e.o.qt ≤ 9223372036854775807) (Y : List Ord) (hY : OfL (1 - e.o.sd) L Y) (B1 : Blk w g1 24 #[.pointer (some ⟨b, 0, none⟩)]) (B3 : Blk w g3 102 e.a) :
    Calls Try.prog 152 #[.pointer (some ⟨g3, 0, none⟩), .pointer (some ⟨g1, 0, none⟩)] w fun r w' => r = .returned (.bool (noneB e Y)) ∧ Fr [] w w' := by
  have c1 := B1.cell
  have c3 := B3.cell
  have HG := Lib.hid (plan_any w b N K D L h e hs hq Y hY)
  unfold noneB
  obtain ⟨P, hP⟩ : ∃ P, P = mkL (takOf e) Y [] e.o.qt := ⟨_, rfl⟩
  rw [← hP] at HG ⊢
  obtain ⟨fs, left, stop⟩ := P
  simp only at HG ⊢
  clear h hs hY hq hP
  have hfd : ∀ (v : Value) (W : World), (Instr.field 82 (.agg #[v, .int .i64 left, .int .i64 stop]) 1).run Try.prog W = .ok (.int .i64 left) W := fun v W => by kernel_rfl
  cases ht : (e.ty == 4)
  · go_enter Try.func152, Try.ntmps152
    go_wp2_with fail
    exact bodyPost_ret (v := .bool false) (by simp [results, Try.results152, go_sem]) rfl ⟨rfl, Fr.refl _ _⟩
  · go_enter Try.func152, Try.ntmps152
    go_wp2_with fail
    refine HG.out.mono ?_
    rintro r w1 ⟨v, rfl, F1, _⟩
    go_wp2_with fail
    exact bodyPost_ret (v := .bool (decide (0 < left))) (by simp [results, Try.results152, go_sem]) rfl ⟨rfl, F1⟩
end Go.Proofs.Ytkimldeagndgjaa

/- What is wrong with an order that comes, put together, walked. -/
namespace Go.Proofs.Ytkimldeagndgjaa
set_option linter.unusedVariables false
set_option linter.unusedSimpArgs false
open Go.RowKit Go.Shelf

theorem mkL_len (t : Tak) : ∀ (Y : List Ord) (fs : List Fil) (left : Int), (mkL t Y fs left).1.length ≤ fs.length + Y.length
  | [], fs, left => by simp [mkL]
  | o :: r, fs, left => by
    unfold mkL
    split
    · simp
    · split
      · simp
      · split
        · simp
        · split
          · have := mkL_len t r (fs ++ [⟨o.id, o.pr, min left o.qt, false⟩]) (left - min left o.qt)
            simp at this ⊢; omega
          · split
            · simp
            · split
              · simp
              · have := mkL_len t r (fs ++ [⟨o.id, o.pr, o.qt, true⟩]) left
                simp at this ⊢; omega
theorem plan_len {w : World} {b N K : Nat} {D : List Nat} {L : List Ord} (h : BookI w b D N K L) {s : Int} {Y : List Ord} (hY : OfL s L Y) (t : Tak) (left : Int) : (mkL t Y [] left).1.length ≤ 500 := by
  have h1 := mkL_len t Y [] left
  have h2 := OfL.len' h.goodL hY
  have h3 := h.goodL.len
  have h4 := h.goodL.N2
  simp at h1; omega

set_option maxHeartbeats 2000000 in
set_option maxRecDepth 5000 in
theorem chk6_any (w : World) (g1 g2 g3 b : Nat) (D : List Nat) (N K : Nat) (L : List Ord) (h : BookI w b D N K L) (e : Entr) (hs : e.o.sd = 0 ∨ e.o.sd = 1) (hq : 1 ≤ e.o.qt ∧ e.o.qt ≤ 9223372036854775807) (Y : List Ord) (hY : OfL (1 - e.o.sd) L Y) (B1 : Blk w g1 24 #[.pointer (some ⟨b, 0, none⟩)]) (B2 : Blk w g2 43 e.o.a) (B3 : Blk w g3 102 e.a) :
    Calls Try.prog 153 #[.pointer (some ⟨g3, 0, none⟩), .pointer (some ⟨g1, 0, none⟩), .pointer (some ⟨g2, 0, none⟩)] w fun r w' => r = .returned (.bool (fullB e N K L Y)) ∧ Fr [] w w' := by
  have HP := Lib.hid (fun W (hf : Fr [] w W) => plan_any W b N K D L (h.fr hf (by simp)) e hs hq Y hY)
  have hlen := plan_len h hY (takOf e) e.o.qt
  have HRs := Lib.hid (fun W (hf : Fr [] w W) (v : Value) (hR : RowF W v (mkL (takOf e) Y [] e.o.qt).1) => rests_any W b N K D L (h.fr hf (by simp)) e hs Y hY v (mkL (takOf e) Y [] e.o.qt).2.1 (mkL (takOf e) Y [] e.o.qt).2.2 _ hR (by omega))
  have HEd := Lib.hid (fun W => edge_any W e)
  have HRo : Hid (restsB e Y (mkL (takOf e) Y [] e.o.qt).1 (mkL (takOf e) Y [] e.o.qt).2.1 (mkL (takOf e) Y [] e.o.qt).2.2 = true → ∀ W, Fr [] w W → Calls Try.prog 46 #[.pointer (some ⟨b, 0, none⟩), .int .i64 e.o.sd, .int .i64 (edgeV e)] W fun r w' => r = .returned (.bool (fitsB e.o.sd (edgeV e) L K && decide (L.length < N))) ∧ Fr [] W w') := Lib.hid fun hr W hf => by
    refine bookRoom W b D N K L (h.fr hf (by simp)) e.o.sd hs (edgeV e) ?_
    unfold restsB at hr
    rw [Bool.and_eq_true, Bool.not_eq_true', Bool.or_eq_false_iff, Bool.or_eq_false_iff, Bool.or_eq_false_iff] at hr
    have h1 := hr.1.1.1.2
    have h2 := hr.1.1.2
    rw [decide_eq_false_iff_not] at h1 h2
    unfold In63; omega
  unfold fullB
  obtain ⟨P, hP⟩ : ∃ P, P = mkL (takOf e) Y [] e.o.qt := ⟨_, rfl⟩
  rw [← hP] at HP HRs HRo ⊢
  obtain ⟨fs, left, stop⟩ := P
  simp only at HP HRs HRo ⊢
  generalize restsB e Y fs left stop = V at HRs HRo ⊢
  generalize (fitsB e.o.sd (edgeV e) L K && decide (L.length < N)) = ro at HRo ⊢
  generalize edgeV e = ed at HEd HRo
  clear h hs hY hq hP hlen
  go_enter Try.func153, Try.ntmps153
  go_wp2_with fail
  refine u_region (S := fun w' => (∀ i, w'.cell? ⟨g3, i, none⟩ = (e.a)[i]?) ∧ w'.cell? ⟨g1, 0, none⟩ = some (.pointer (some ⟨b, 0, none⟩)) ∧ ∀ i, w'.cell? ⟨g2, i, none⟩ = (e.o.a)[i]?) 15 (by kernel_rfl) (by kernel_rfl) (by kernel_rfl) (by kernel_rfl) (by kernel_rfl) ⟨fun i => B3.drew.cell i, (B1.drew.cell 0).trans rfl, fun i => B2.drew.cell i⟩ ?_
  (refine u_take 0 (v := ?_) rfl rfl (by kernel_rfl) (by kernel_rfl) (fun _ _ _ h => h) (Or.inl ⟨by rfl, ?_⟩) ?_; rotate_left; (focus (intro wz hSw; (try dsimp only at hSw); go_simp; (try with_reducible rfl))); (try simp only [Act.put, List.getElem_toArray, List.getElem_cons_succ, List.getElem_cons_zero, List.setIfInBounds_toArray, List.set_cons_zero, List.set_cons_succ]))
  (refine u_take 1 (v := ?_) rfl rfl (by kernel_rfl) (by kernel_rfl) (fun _ _ _ h => h) (Or.inl ⟨by rfl, ?_⟩) ?_; rotate_left; (focus (intro wz hSw; (try dsimp only at hSw); go_simp; (try with_reducible rfl))); (try simp only [Act.put, List.getElem_toArray, List.getElem_cons_succ, List.getElem_cons_zero, List.setIfInBounds_toArray, List.set_cons_zero, List.set_cons_succ]))
  (refine u_take 2 (v := ?_) rfl rfl (by kernel_rfl) (by kernel_rfl) (fun _ _ _ h => h) (Or.inl ⟨by rfl, ?_⟩) ?_; rotate_left; (focus (intro wz hSw; (try dsimp only at hSw); go_simp; (try with_reducible rfl))); (try simp only [Act.put, List.getElem_toArray, List.getElem_cons_succ, List.getElem_cons_zero, List.setIfInBounds_toArray, List.set_cons_zero, List.set_cons_succ]))
  (refine u_take 3 (v := ?_) rfl rfl (by kernel_rfl) (by kernel_rfl) (fun _ _ _ h => h) (Or.inl ⟨by rfl, ?_⟩) ?_; rotate_left; (focus (intro wz hSw; (try dsimp only at hSw); go_simp; (try with_reducible rfl))); (try simp only [Act.put, List.getElem_toArray, List.getElem_cons_succ, List.getElem_cons_zero, List.setIfInBounds_toArray, List.set_cons_zero, List.set_cons_succ]))
  refine u_one 4 (by kernel_rfl) rfl rfl (fun Kq hKq => ?_)
  go_simp
  refine (HP.out _ (Fr.drew (Fr.refl _ _))).mono ?_
  rintro r w1 ⟨v, rfl, F1, R1, hv⟩
  have F01 : Fr [] w w1 := (Fr.drew (Fr.refl _ _)).trans F1
  refine hKq _ _ ⟨fun i => (Blk.via F01 (by simp) B3).cell i, ((Blk.via F01 (by simp) B1).cell 0).trans rfl, fun i => (Blk.via F01 (by simp) B2).cell i⟩ ?_
  clear hKq Kq
  (try simp only [Act.put, List.getElem_toArray, List.getElem_cons_succ, List.getElem_cons_zero, List.setIfInBounds_toArray, List.set_cons_zero, List.set_cons_succ])
  refine u_one 5 (by kernel_rfl) rfl rfl (fun Kq hKq => ?_)
  go_simp
  refine (HRs.out w1 F01 v R1).mono ?_
  rintro r w2 ⟨rfl, F2⟩
  have F02 : Fr [] w w2 := F01.trans F2
  refine hKq _ _ ⟨fun i => (Blk.via F02 (by simp) B3).cell i, ((Blk.via F02 (by simp) B1).cell 0).trans rfl, fun i => (Blk.via F02 (by simp) B2).cell i⟩ ?_
  clear hKq Kq
  (try simp only [Act.put, List.getElem_toArray, List.getElem_cons_succ, List.getElem_cons_zero, List.setIfInBounds_toArray, List.set_cons_zero, List.set_cons_succ])
  (refine u_take 6 (v := ?_) rfl rfl (by kernel_rfl) (by kernel_rfl) (fun _ _ _ h => h) (Or.inl ⟨by rfl, ?_⟩) ?_; rotate_left; (focus (intro wz hSw; (try dsimp only at hSw); go_simp; (try with_reducible rfl))); (try simp only [Act.put, List.getElem_toArray, List.getElem_cons_succ, List.getElem_cons_zero, List.setIfInBounds_toArray, List.set_cons_zero, List.set_cons_succ]))
  cases V
  · (refine u_take 7 (v := undef) rfl rfl (by kernel_rfl) (by kernel_rfl) (fun _ _ _ h => h) (Or.inr ⟨by rfl, rfl⟩) ?_; (try simp only [Act.put, List.getElem_toArray, List.getElem_cons_succ, List.getElem_cons_zero, List.setIfInBounds_toArray, List.set_cons_zero, List.set_cons_succ]))
    (refine u_take 8 (v := undef) rfl rfl (by kernel_rfl) (by kernel_rfl) (fun _ _ _ h => h) (Or.inr ⟨by rfl, rfl⟩) ?_; (try simp only [Act.put, List.getElem_toArray, List.getElem_cons_succ, List.getElem_cons_zero, List.setIfInBounds_toArray, List.set_cons_zero, List.set_cons_succ]))
    (refine u_take 9 (v := undef) rfl rfl (by kernel_rfl) (by kernel_rfl) (fun _ _ _ h => h) (Or.inr ⟨by rfl, rfl⟩) ?_; (try simp only [Act.put, List.getElem_toArray, List.getElem_cons_succ, List.getElem_cons_zero, List.setIfInBounds_toArray, List.set_cons_zero, List.set_cons_succ]))
    (refine u_take 10 (v := undef) rfl rfl (by kernel_rfl) (by kernel_rfl) (fun _ _ _ h => h) (Or.inr ⟨by rfl, rfl⟩) ?_; (try simp only [Act.put, List.getElem_toArray, List.getElem_cons_succ, List.getElem_cons_zero, List.setIfInBounds_toArray, List.set_cons_zero, List.set_cons_succ]))
    (refine u_take 11 (v := undef) rfl rfl (by kernel_rfl) (by kernel_rfl) (fun _ _ _ h => h) (Or.inr ⟨by rfl, rfl⟩) ?_; (try simp only [Act.put, List.getElem_toArray, List.getElem_cons_succ, List.getElem_cons_zero, List.setIfInBounds_toArray, List.set_cons_zero, List.set_cons_succ]))
    (refine u_take 12 (v := undef) rfl rfl (by kernel_rfl) (by kernel_rfl) (fun _ _ _ h => h) (Or.inr ⟨by rfl, rfl⟩) ?_; (try simp only [Act.put, List.getElem_toArray, List.getElem_cons_succ, List.getElem_cons_zero, List.setIfInBounds_toArray, List.set_cons_zero, List.set_cons_succ]))
    (refine u_take 13 (v := undef) rfl rfl (by kernel_rfl) (by kernel_rfl) (fun _ _ _ h => h) (Or.inr ⟨by rfl, rfl⟩) ?_; (try simp only [Act.put, List.getElem_toArray, List.getElem_cons_succ, List.getElem_cons_zero, List.setIfInBounds_toArray, List.set_cons_zero, List.set_cons_succ]))
    (refine u_take 14 (v := ?_) rfl rfl (by kernel_rfl) (by kernel_rfl) (fun _ _ _ h => h) (Or.inl ⟨by rfl, ?_⟩) ?_; rotate_left; (focus (intro wz hSw; (try dsimp only at hSw); go_simp; (try with_reducible rfl))); (try simp only [Act.put, List.getElem_toArray, List.getElem_cons_succ, List.getElem_cons_zero, List.setIfInBounds_toArray, List.set_cons_zero, List.set_cons_succ]))
    refine u_last (by kernel_rfl) rfl (by kernel_rfl) ?_
    go_wp2_with fail
    go_ret
    exact ⟨rfl, F02⟩
  · (refine u_take 7 (v := ?_) rfl rfl (by kernel_rfl) (by kernel_rfl) (fun _ _ _ h => h) (Or.inl ⟨by rfl, ?_⟩) ?_; rotate_left; (focus (intro wz hSw; (try dsimp only at hSw); go_simp; (try with_reducible rfl))); (try simp only [Act.put, List.getElem_toArray, List.getElem_cons_succ, List.getElem_cons_zero, List.setIfInBounds_toArray, List.set_cons_zero, List.set_cons_succ]))
    (refine u_take 8 (v := ?_) rfl rfl (by kernel_rfl) (by kernel_rfl) (fun _ _ _ h => h) (Or.inl ⟨by rfl, ?_⟩) ?_; rotate_left; (focus (intro wz hSw; (try dsimp only at hSw); go_simp; (try with_reducible rfl))); (try simp only [Act.put, List.getElem_toArray, List.getElem_cons_succ, List.getElem_cons_zero, List.setIfInBounds_toArray, List.set_cons_zero, List.set_cons_succ]))
    (refine u_take 9 (v := ?_) rfl rfl (by kernel_rfl) (by kernel_rfl) (fun _ _ _ h => h) (Or.inl ⟨by rfl, ?_⟩) ?_; rotate_left; (focus (intro wz hSw; (try dsimp only at hSw); go_simp; (try with_reducible rfl))); (try simp only [Act.put, List.getElem_toArray, List.getElem_cons_succ, List.getElem_cons_zero, List.setIfInBounds_toArray, List.set_cons_zero, List.set_cons_succ]))
    (refine u_take 10 (v := ?_) rfl rfl (by kernel_rfl) (by kernel_rfl) (fun _ _ _ h => h) (Or.inl ⟨by rfl, ?_⟩) ?_; rotate_left; (focus (intro wz hSw; (try dsimp only at hSw); go_simp; (try with_reducible rfl))); (try simp only [Act.put, List.getElem_toArray, List.getElem_cons_succ, List.getElem_cons_zero, List.setIfInBounds_toArray, List.set_cons_zero, List.set_cons_succ]))
    refine u_one 11 (by kernel_rfl) rfl rfl (fun Kq hKq => ?_)
    go_simp
    refine (HEd.out w2).mono ?_
    rintro r w3 ⟨rfl, F3⟩
    have F03 : Fr [] w w3 := F02.trans F3
    refine hKq _ _ ⟨fun i => (Blk.via F03 (by simp) B3).cell i, ((Blk.via F03 (by simp) B1).cell 0).trans rfl, fun i => (Blk.via F03 (by simp) B2).cell i⟩ ?_
    clear hKq Kq
    (try simp only [Act.put, List.getElem_toArray, List.getElem_cons_succ, List.getElem_cons_zero, List.setIfInBounds_toArray, List.set_cons_zero, List.set_cons_succ])
    refine u_one 12 (by kernel_rfl) rfl rfl (fun Kq hKq => ?_)
    go_simp
    refine (HRo.out rfl w3 F03).mono ?_
    rintro r w4 ⟨rfl, F4⟩
    have F04 : Fr [] w w4 := F03.trans F4
    refine hKq _ _ ⟨fun i => (Blk.via F04 (by simp) B3).cell i, ((Blk.via F04 (by simp) B1).cell 0).trans rfl, fun i => (Blk.via F04 (by simp) B2).cell i⟩ ?_
    clear hKq Kq
    (try simp only [Act.put, List.getElem_toArray, List.getElem_cons_succ, List.getElem_cons_zero, List.setIfInBounds_toArray, List.set_cons_zero, List.set_cons_succ])
    (refine u_take 13 (v := ?_) rfl rfl (by kernel_rfl) (by kernel_rfl) (fun _ _ _ h => h) (Or.inl ⟨by rfl, ?_⟩) ?_; rotate_left; (focus (intro wz hSw; (try dsimp only at hSw); go_simp; (try with_reducible rfl))); (try simp only [Act.put, List.getElem_toArray, List.getElem_cons_succ, List.getElem_cons_zero, List.setIfInBounds_toArray, List.set_cons_zero, List.set_cons_succ]))
    (refine u_take 14 (v := ?_) rfl rfl (by kernel_rfl) (by kernel_rfl) (fun _ _ _ h => h) (Or.inl ⟨by rfl, ?_⟩) ?_; rotate_left; (focus (intro wz hSw; (try dsimp only at hSw); go_simp; (try with_reducible rfl))); (try simp only [Act.put, List.getElem_toArray, List.getElem_cons_succ, List.getElem_cons_zero, List.setIfInBounds_toArray, List.set_cons_zero, List.set_cons_succ]))
    refine u_last (by kernel_rfl) rfl (by kernel_rfl) ?_
    go_wp2_with fail
    go_ret
    exact ⟨rfl, F04⟩

def pick6 {α : Type} (a b c d e f : α) : Nat → α | 0 => a | 1 => b | 2 => c | 3 => d | 4 => e | _ => f
theorem forall6 {Q : Nat → Prop} (h0 : Q 0) (h1 : Q 1) (h2 : Q 2) (h3 : Q 3) (h4 : Q 4) (h5 : Q 5) : ∀ i, i < 6 → Q i := by
  intro i hi
  rcases (show i = 0 ∨ i = 1 ∨ i = 2 ∨ i = 3 ∨ i = 4 ∨ i = 5 by omega) with rfl | rfl | rfl | rfl | rfl | rfl <;> assumption
/-- What Check answers. -/
def checkF (e : Entr) (N K : Nat) (L Y : List Ord) : Int :=
  if badB e = true then 1 else if rngB e = true then 9 else if idB e L = true then 6 else if crossB e Y = true then 12 else if noneB e Y = true then 13 else if fullB e N K L Y = true then 7 else 0
theorem bad_no {e : Entr} (h : badB e = false) : (e.o.sd = 0 ∨ e.o.sd = 1) ∧ 1 ≤ e.ty ∧ e.ty ≤ 5 := by
  unfold badB at h
  rw [Bool.or_eq_false_iff, Bool.or_eq_false_iff, Bool.not_eq_false', Bool.or_eq_true, beq_iff_eq, beq_iff_eq, decide_eq_false_iff_not, decide_eq_false_iff_not] at h
  exact ⟨h.1.1, by omega, by omega⟩
theorem rng_no {e : Entr} (h : rngB e = false) : (1 ≤ e.o.qt ∧ e.o.qt ≤ 4294967296) ∧ rangedB e = false := by
  unfold rngB at h
  rw [Bool.or_eq_false_iff, Bool.not_eq_false', beq_iff_eq] at h
  refine ⟨?_, h.2⟩
  have h1 := h.1
  unfold qtyI inB at h1
  split at h1
  · rename_i c
    simp at c; exact c
  · omega

set_option maxHeartbeats 2000000 in
set_option maxRecDepth 5000 in
theorem check_any (w : World) (b : Nat) (D : List Nat) (N K : Nat) (L : List Ord) (h : BookI w b D N K L) (e : Entr) (hp : In64 e.o.pr) (Y : List Ord) (hY : (e.o.sd = 0 ∨ e.o.sd = 1) → OfL (1 - e.o.sd) L Y) :
    Calls Try.prog 111 #[.pointer (some ⟨b, 0, none⟩), .agg e.a] w fun r w' => r = .returned (.int .i64 (checkF e N K L Y)) ∧ Fr [] w w' := by
  have hmf : ∀ (fn : Fn) (first cap : Array Value) (w : World), (Instr.makeFunc fn first cap).run Try.prog w = .ok (.func fn first cap) w := fun _ _ _ _ => rfl
  have HB := Lib.hid h
  have HI := Lib.hid hp
  have HY := Lib.hid hY
  clear h hp hY
  go_enter Try.func111, Try.ntmps111
  go_wp2_with fail
  refine calls_named (fun W hW => ?_)
  have B1 : Blk W w.heap.size 24 #[.pointer (some ⟨b, 0, none⟩)] := Blk.box3 hW
  have B3 : Blk W (w.heap.size + 1) 102 e.a := by have := Blk.box2 hW; simpa only [World.size_alloc] using this
  have B2 : Blk W (w.heap.size + 1 + 1) 43 e.o.a := by have := Blk.box1 hW; simpa only [World.size_alloc] using this
  have B0 := Blk.box0 hW
  have F0 : Fr [] w W := Fr.eqv hW (by with_reducible repeat (first | exact Fr.refl _ _ | assumption | apply Fr.drew | apply Fr.drewN | apply Fr.alloc | (apply Fr.step; assumption; (intro _ h; (first | exact h | (focus (simp_all; done))))) | (apply Fr.setIn; (first | exact List.mem_cons_self | exact List.mem_cons_of_mem _ List.mem_cons_self | exact List.mem_cons_of_mem _ (List.mem_cons_of_mem _ List.mem_cons_self) | exact List.mem_cons_of_mem _ (List.mem_cons_of_mem _ (List.mem_cons_of_mem _ List.mem_cons_self)))) | (apply Fr.setNew; (first | omega | (simp; omega)))))
  simp only [World.size_alloc] at B0
  clear hW
  refine (mfirst_any W (w.heap.size + 1 + 1 + 1) 6 _ (pick6 147 148 150 151 152 153)
    (pick6 #[.pointer (some ⟨w.heap.size, 0, none⟩), .pointer (some ⟨w.heap.size + 1 + 1, 0, none⟩), .pointer (some ⟨w.heap.size + 1, 0, none⟩)] #[.pointer (some ⟨w.heap.size + 1 + 1, 0, none⟩), .pointer (some ⟨w.heap.size + 1, 0, none⟩)] #[.pointer (some ⟨w.heap.size, 0, none⟩), .pointer (some ⟨w.heap.size + 1 + 1, 0, none⟩)]
      #[.pointer (some ⟨w.heap.size + 1, 0, none⟩), .pointer (some ⟨w.heap.size, 0, none⟩), .pointer (some ⟨w.heap.size + 1 + 1, 0, none⟩)] #[.pointer (some ⟨w.heap.size + 1, 0, none⟩), .pointer (some ⟨w.heap.size, 0, none⟩)] #[.pointer (some ⟨w.heap.size + 1, 0, none⟩), .pointer (some ⟨w.heap.size, 0, none⟩), .pointer (some ⟨w.heap.size + 1 + 1, 0, none⟩)])
    (pick6 (badB e) (rngB e) (idB e L) (crossB e Y) (noneB e Y) (fullB e N K L Y)) (pick6 1 9 6 12 13 7) B0 (by omega) (forall6 ⟨rfl, rfl⟩ ⟨rfl, rfl⟩ ⟨rfl, rfl⟩ ⟨rfl, rfl⟩ ⟨rfl, rfl⟩ ⟨rfl, rfl⟩)
    (forall6 (enters_of Try.func147 (by kernel_rfl) rfl) (enters_of Try.func148 (by kernel_rfl) rfl) (enters_of Try.func150 (by kernel_rfl) rfl) (enters_of Try.func151 (by kernel_rfl) rfl) (enters_of Try.func152 (by kernel_rfl) rfl) (enters_of Try.func153 (by kernel_rfl) rfl))
    (forall6 (fun _ w' F => chk1_any w' _ _ _ b e (Blk.via F (by simp) B1) (Blk.via F (by simp) B2) (Blk.via F (by simp) B3))
      (fun _ w' F => chk2_any w' _ _ e HI.out (Blk.via F (by simp) B2) (Blk.via F (by simp) B3))
      (fun _ w' F => chk3_any w' _ _ b D N K L (HB.out.fr (F0.trans F) (by simp)) e (Blk.via F (by simp) B1) (Blk.via F (by simp) B2))
      (fun hz w' F => chk4_any w' _ _ _ b D N K L (HB.out.fr (F0.trans F) (by simp)) e (bad_no (hz 0 (by omega))).1 Y (HY.out (bad_no (hz 0 (by omega))).1) (Blk.via F (by simp) B1) (Blk.via F (by simp) B2) (Blk.via F (by simp) B3))
      (fun hz w' F => chk5_any w' _ _ b D N K L (HB.out.fr (F0.trans F) (by simp)) e (bad_no (hz 0 (by omega))).1 (by have := (rng_no (hz 1 (by omega))).1; omega) Y (HY.out (bad_no (hz 0 (by omega))).1) (Blk.via F (by simp) B1) (Blk.via F (by simp) B3))
      (fun hz w' F => chk6_any w' _ _ _ b D N K L (HB.out.fr (F0.trans F) (by simp)) e (bad_no (hz 0 (by omega))).1 (by have := (rng_no (hz 1 (by omega))).1; omega) Y (HY.out (bad_no (hz 0 (by omega))).1) (Blk.via F (by simp) B1) (Blk.via F (by simp) B2) (Blk.via F (by simp) B3)))).mono ?_
  have hres : firstQ (pick6 (badB e) (rngB e) (idB e L) (crossB e Y) (noneB e Y) (fullB e N K L Y)) (pick6 1 9 6 12 13 7) 0 6 = checkF e N K L Y := rfl
  rw [hres]
  rintro r w1 ⟨rfl, F1⟩
  clear hres B0 B1 B2 B3
  go_wp2_with fail
  go_ret
  exact ⟨rfl, F0.trans F1⟩
end Go.Proofs.Ytkimldeagndgjaa

/- What comes of an order that comes (match.Enter), walked. -/
namespace Go.Proofs.Ytkimldeagndgjaa
set_option linter.unusedVariables false
set_option linter.unusedSimpArgs false
open Go.RowKit Go.Shelf

abbrev resA (f : Int) (v : Value) (o : Ord) (gone why : Int) : Array Value := #[.int .i64 f, v, .int .i64 o.id, .int .i64 o.ow, .int .i64 o.sd, .int .i64 o.pr, .int .i64 o.qt, .int .i64 o.fl, .int .i64 o.sq, .int .i64 gone, .int .i64 why]
theorem info_res : (Try.prog.info? 100).map (·.size) = some 11 := by kernel_rfl
theorem wpList_storeR {ops : Array Oper} {rest : List Oper} {p : Oper} {a : Act} {w : World} {Q : Exit → Act → World → Prop} (hgd : p.guard = none) (x y : Operand) (hp : p.op = .store 100 x y)
    (g : Nat) (old : Array Value) (f : Int) (A : Option Addr) (n c : Nat) (o : Ord) (gone why : Int) (hx : a.eval x = .pointer (some ⟨g, 0, none⟩)) (hy : a.eval y = .agg (resA f (.slice A n c) o gone why)) (B : Blk w g 100 old) (h1 : old.size = 11)
    (h : ∀ w', Blk w' g 100 (resA f (.slice A n c) o gone why) → Fr [g] w w' → wpList Try.prog ops Q rest (a.put p.dst undef) w') : wpList Try.prog ops Q (p :: rest) a w :=
  wpList_store_row hgd _ x y hp g _ hx hy _ _ B info_res (by rw [h1]; rfl) (by simp [Value.oneCell'])
    (h _ (setRow_heap w g _ _ _ _ B) ⟨rfl, rfl, rfl, by simp [World.setRow], fun k _ hk => setRow_other w g k _ (fun e => hk (by simp [e]))⟩)
theorem wpList_loadR {ops : Array Oper} {rest : List Oper} {p : Oper} {a : Act} {w : World} {Q : Exit → Act → World → Prop} (hgd : p.guard = none) (x : Operand) (hp : p.op = .load 100 x)
    (g : Nat) (f : Int) (v : Value) (o : Ord) (gone why : Int) (hx : a.eval x = .pointer (some ⟨g, 0, none⟩)) (B : Blk w g 100 (resA f v o gone why)) (h : wpList Try.prog ops Q rest (a.put p.dst (.agg (resA f v o gone why))) w) : wpList Try.prog ops Q (p :: rest) a w :=
  wpList_load_row hgd _ x hp g hx _ _ (0, 0) _ B Try.underlying100 rfl info_res h

set_option maxHeartbeats 4000000 in
set_option maxRecDepth 5000 in
theorem enter_bad (w : World) (b : Nat) (D : List Nat) (N K : Nat) (L : List Ord) (h : BookI w b D N K L) (e : Entr) (hp : In64 e.o.pr) (Y : List Ord) (hY : (e.o.sd = 0 ∨ e.o.sd = 1) → OfL (1 - e.o.sd) L Y) (hc : checkF e N K L Y ≠ 0) :
    Calls Try.prog 51 #[.pointer (some ⟨b, 0, none⟩), .agg e.a] w fun r w' => r = .returned (.agg (resA (checkF e N K L Y) (.slice none 0 0) ord0 0 0)) ∧ Fr [] w w' := by
  have HC := Lib.hid (fun W (hf : Fr [] w W) => check_any W b D N K L (h.fr hf (by simp)) e hp Y hY)
  obtain ⟨cf, hcf⟩ : ∃ cf, cf = checkF e N K L Y := ⟨_, rfl⟩
  rw [← hcf] at HC hc ⊢
  have hc' : (cf != 0) = true := by simpa using hc
  clear h hp hY hcf hc
  go_enter Try.func51, Try.ntmps51
  go_wp2_with fail
  refine calls_named (fun W0 hW => ?_)
  have B0 : Blk W0 w.heap.size 102 e.a := Blk.box1 hW
  have C0' := Blk.box0 hW
  simp only [World.size_alloc] at C0'
  have C0 : Blk W0 (w.heap.size + 1) 100 (resA 0 (.slice none 0 0) ord0 0 0) := C0'
  clear C0'
  have F0 : Fr [] w W0 := Fr.eqv hW (by with_reducible repeat (first | exact Fr.refl _ _ | assumption | apply Fr.drew | apply Fr.drewN | apply Fr.alloc | (apply Fr.step; assumption; (intro _ h; (first | exact h | (focus (simp_all; done))))) | (apply Fr.setIn; (first | exact List.mem_cons_self | exact List.mem_cons_of_mem _ List.mem_cons_self | exact List.mem_cons_of_mem _ (List.mem_cons_of_mem _ List.mem_cons_self) | exact List.mem_cons_of_mem _ (List.mem_cons_of_mem _ (List.mem_cons_of_mem _ List.mem_cons_self)))) | (apply Fr.setNew; (first | omega | (simp; omega)))))
  clear hW
  refine (HC.out W0 F0).mono ?_
  rintro r w1 ⟨rfl, F1⟩
  have C1 := Blk.via F1 (by simp) C0
  have F01 := F0.trans F1
  have c1 := C1.cell
  have f1 := C1.frozen
  have l1 := C1.lt
  clear B0 C0 F0 F1
  have C2 : Blk (w1.setCell ⟨w.heap.size + 1, 0, none⟩ (.int .i64 cf)) (w.heap.size + 1) 100 (resA cf (.slice none 0 0) ord0 0 0) := (C1.same 0 _).cast rfl
  go_wp2_with (first
    | (refine wpList_loadR rfl (.tmp 4) rfl (w.heap.size + 1) cf (.slice none 0 0) ord0 0 0 rfl C2 ?_)
    | (refine wpList_storeR rfl (.tmp 4) (.tmp 14) rfl (w.heap.size + 1) _ cf none 0 0 ord0 0 0 rfl rfl C2 rfl ?_
       intro w3 C3 F3))
  have c3 := C3.cell
  exact bodyPost_ret (v := .agg (resA cf (.slice none 0 0) ord0 0 0)) (by simp [results, Try.results51, go_sem, c3]) rfl ⟨rfl, fr_fresh2 (by omega) (F01.setNew (by omega)) F3⟩
end Go.Proofs.Ytkimldeagndgjaa

/- What comes of an order that comes and is taken (match.Enter), walked. -/
namespace Go.Proofs.Ytkimldeagndgjaa
set_option linter.unusedVariables false
set_option linter.unusedSimpArgs false
open Go.RowKit Go.Shelf

theorem check_ok {e : Entr} {N K : Nat} {L Y : List Ord} (h : checkF e N K L Y = 0) : badB e = false ∧ rngB e = false ∧ idB e L = false ∧ crossB e Y = false ∧ noneB e Y = false ∧ fullB e N K L Y = false := by
  unfold checkF at h
  cases h1 : badB e
  · cases h2 : rngB e
    · cases h3 : idB e L
      · cases h4 : crossB e Y
        · cases h5 : noneB e Y
          · cases h6 : fullB e N K L Y
            · simp
            · simp [h1, h2, h3, h4, h5, h6] at h
          · simp [h1, h2, h3, h4, h5] at h
        · simp [h1, h2, h3, h4] at h
      · simp [h1, h2, h3] at h
    · simp [h1, h2] at h
  · simp [h1] at h

set_option maxHeartbeats 8000000 in
set_option maxRecDepth 5000 in
theorem enter_gone (w : World) (b : Nat) (D : List Nat) (N K : Nat) (L : List Ord) (h : BookI w b D N K L) (e : Entr) (hp : In64 e.o.pr) (Y : List Ord) (hY : (e.o.sd = 0 ∨ e.o.sd = 1) → OfL (1 - e.o.sd) L Y) (hc : checkF e N K L Y = 0)
    (fs : List Fil) (left stop : Int) (hm : mkL (takOf e) Y [] e.o.qt = (fs, left, stop)) (hr : restsB e Y fs left stop = false) :
    Calls Try.prog 51 #[.pointer (some ⟨b, 0, none⟩), .agg e.a] w fun r w' => ∃ v, r = .returned (.agg (resA 0 v ord0 left (whyV e left stop))) ∧ Fr D w w' ∧ BookI w' b D N K (apL fs L).2 ∧ RowF w' v fs ∧ ∀ g, v.ownBlock = some g → w.heap.size ≤ g := by
  obtain ⟨k1, k2, k3, k4, k5, k6⟩ := check_ok hc
  have hs := (bad_no k1).1
  have hq := (rng_no k2).1
  have hlen := plan_len h (hY hs) (takOf e) e.o.qt
  rw [hm] at hlen
  have HC := Lib.hid (fun W (hf : Fr [] w W) => check_any W b D N K L (h.fr hf (by simp)) e hp Y hY)
  have HP := Lib.hid (fun W (hf : Fr [] w W) => plan_any W b N K D L (h.fr hf (by simp)) e hs (by omega) Y (hY hs))
  have HRs := Lib.hid (fun W (hf : Fr [] w W) (v : Value) (hR : RowF W v fs) => rests_any W b N K D L (h.fr hf (by simp)) e hs Y (hY hs) v left stop fs hR (by simp at hlen; omega))
  have HAp := Lib.hid (fun W (hf : Fr [] w W) (v : Value) (hR : RowF W v fs) (hv : ∀ g, v.ownBlock = some g → w.heap.size ≤ g) => apply_any W b D N K L (h.fr hf (by simp)) v left stop fs hR (fun g hg hm => by have := h.lts' g hm; have := hv g hg; omega) (by simp at hlen; omega))
  have HW := Lib.hid (fun W A n c => why_any W e A n c left stop)
  rw [hc] at HC
  rw [hm] at HP
  rw [hr] at HRs
  simp only at HP
  have hDl : ∀ x ∈ D, x < w.heap.size := h.lts'
  generalize whyV e left stop = wy at HW ⊢
  generalize apL fs L = ap at HAp ⊢
  clear h hp hY hc hr k1 k2 k3 k4 k5 k6 hs hq hlen hm
  go_enter Try.func51, Try.ntmps51
  go_wp2_with fail
  refine calls_named (fun W0 hW => ?_)
  have B0 : Blk W0 w.heap.size 102 e.a := Blk.box1 hW
  have C0' := Blk.box0 hW
  simp only [World.size_alloc] at C0'
  have C0 : Blk W0 (w.heap.size + 1) 100 (resA 0 (.slice none 0 0) ord0 0 0) := C0'
  have F0 : Fr [] w W0 := Fr.eqv hW (by with_reducible repeat (first | exact Fr.refl _ _ | assumption | apply Fr.drew | apply Fr.drewN | apply Fr.alloc | (apply Fr.step; assumption; (intro _ h; (first | exact h | (focus (simp_all; done))))) | (apply Fr.setIn; (first | exact List.mem_cons_self | exact List.mem_cons_of_mem _ List.mem_cons_self | exact List.mem_cons_of_mem _ (List.mem_cons_of_mem _ List.mem_cons_self) | exact List.mem_cons_of_mem _ (List.mem_cons_of_mem _ (List.mem_cons_of_mem _ List.mem_cons_self)))) | (apply Fr.setNew; (first | omega | (simp; omega)))))
  clear hW C0'
  refine (HC.out W0 F0).mono ?_
  rintro r w1 ⟨rfl, F1⟩
  have B1 := Blk.via F1 (by simp) B0
  have C1 := Blk.via F1 (by simp) C0
  have F01 := F0.trans F1
  have d1 := B1.cell
  have c1 := C1.cell
  have f1 := C1.frozen
  have l1 := C1.lt
  clear B0 C0 F0 F1 HC
  go_wp2_with fail
  refine calls_named (fun W2 hW => ?_)
  have C2 : Blk W2 (w.heap.size + 1) 100 (resA 0 (.slice none 0 0) ord0 0 0) := Blk.eqv hW ((C1.same 0 _).cast rfl)
  have B2 := Blk.eqv hW (B1.off (o := 0) (u := .int .i64 0) (show w.heap.size ≠ w.heap.size + 1 by omega))
  have F2 : Fr [] w W2 := Fr.eqv hW (F01.setNew (by omega))
  have s2 := C2.lt
  clear hW B1 C1 F01 d1 c1 f1 l1
  refine (HP.out W2 F2).mono ?_
  rintro r w3 ⟨v, rfl, F3, R3, hv⟩
  have B3 := Blk.via F3 (by simp) B2
  have C3 := Blk.via F3 (by simp) C2
  have F03 := F2.trans F3
  have d3 := B3.cell
  have l3 := B3.lt
  have m3 := C3.lt
  have HR3 := Lib.hid R3
  have HV : Hid (∀ g, v.ownBlock = some g → w.heap.size + 2 ≤ g) := Lib.hid (fun g hg => by have := hv g hg; omega)
  obtain ⟨A, c, rfl, _⟩ := R3.form
  clear B2 C2 F2 F3 R3 hv HP s2
  go_wp2_with fail
  refine calls_named (fun W4 hW => ?_)
  have P4 := Blk.box0 hW
  have B4 := Blk.eqv hW (B3.alloc _)
  have C4 := Blk.eqv hW (C3.alloc _)
  have F4 : Fr [] w3 W4 := Fr.eqv hW (by with_reducible repeat (first | exact Fr.refl _ _ | assumption | apply Fr.drew | apply Fr.drewN | apply Fr.alloc | (apply Fr.step; assumption; (intro _ h; (first | exact h | (focus (simp_all; done))))) | (apply Fr.setIn; (first | exact List.mem_cons_self | exact List.mem_cons_of_mem _ List.mem_cons_self | exact List.mem_cons_of_mem _ (List.mem_cons_of_mem _ List.mem_cons_self) | exact List.mem_cons_of_mem _ (List.mem_cons_of_mem _ (List.mem_cons_of_mem _ List.mem_cons_self)))) | (apply Fr.setNew; (first | omega | (simp; omega)))))
  have p4n : w.heap.size + 2 ≤ w3.heap.size := by have := C3.lt; omega
  have R4 := HR3.out.fr F4 (by simp)
  have F04 := F03.trans F4
  clear hW B3 C3 d3 l3 m3 F03 F4
  refine (HRs.out W4 F04 _ R4).mono ?_
  rintro r w5 ⟨rfl, F5⟩
  have B5 := Blk.via F5 (by simp) B4
  have C5 := Blk.via F5 (by simp) C4
  have P5 := Blk.via F5 (by simp) P4
  have R5 := R4.fr F5 (by simp)
  have F05 := F04.trans F5
  have q5 := P5.cell
  clear B4 C4 P4 R4 F04 F5 HRs
  go_wp2_with fail
  refine (HAp.out w5 F05 _ R5 (fun g hg => by have := HV.out g hg; omega)).mono ?_
  rintro r w6 ⟨rfl, F6, I6⟩
  have nD : ∀ g, w.heap.size ≤ g → g ∉ D := fun g hg hm => by have := hDl g hm; omega
  have B6 := Blk.via F6 (nD _ (by omega)) B5
  have C6 := Blk.via F6 (nD _ (by omega)) C5
  have P6 := Blk.via F6 (nD _ (by omega)) P5
  have R6 := R5.fr F6 (fun g hg => nD g (by have := HV.out g hg; omega))
  have F06 : Fr D w w6 := (F05.mono (by simp)).trans F6
  have HI6 := Lib.hid I6
  have c6 := C6.cell
  have f6 := C6.frozen
  have l6 := C6.lt
  have q6 := P6.cell
  clear B5 C5 P5 R5 F05 F6 I6 q5 HAp
  go_wp2_with fail
  refine wp_name (fun W7 hW => ?_)
  have C7 : Blk W7 (w.heap.size + 1) 100 (resA 0 (.slice A fs.length c) ord0 0 0) := Blk.eqv hW ((C6.same 1 _).cast rfl)
  have B7 := Blk.eqv hW (B6.off (o := 1) (u := .slice A fs.length c) (show w.heap.size ≠ w.heap.size + 1 by omega))
  have P7 := Blk.eqv hW (P6.off (o := 1) (u := .slice A fs.length c) (show w3.heap.size ≠ w.heap.size + 1 by omega))
  have F67 : Fr [w.heap.size + 1] w6 W7 := Fr.eqv hW ((Fr.refl _ _).setIn (by simp))
  have R7 := R6.fr F67 (fun g hg hm => by have := HV.out g hg; have := List.mem_singleton.1 hm; omega)
  clear hW B6 C6 P6 R6 c6 f6 l6 q6
  have c7 := C7.cell
  have f7 := C7.frozen
  have l7 := C7.lt
  refine u_region (S := fun w' => (∀ i, w'.cell? ⟨w.heap.size, i, none⟩ = (e.a)[i]?) ∧ ∀ i, w'.cell? ⟨w3.heap.size, i, none⟩ = (#[Value.slice A fs.length c, .int .i64 left, .int .i64 stop] : Array Value)[i]?) 8 (by kernel_rfl) (by kernel_rfl) (by kernel_rfl) (by kernel_rfl) (by kernel_rfl) ⟨fun i => B7.drew.cell i, fun i => P7.drew.cell i⟩ ?_
  (refine u_take 0 (v := ?_) rfl rfl (by kernel_rfl) (by kernel_rfl) (fun _ _ _ h => h) (Or.inl ⟨by rfl, ?_⟩) ?_; rotate_left; (focus (intro wz hSw; (try dsimp only at hSw); go_simp; (try with_reducible rfl))); (try simp only [Act.put, List.getElem_toArray, List.getElem_cons_succ, List.getElem_cons_zero, List.setIfInBounds_toArray, List.set_cons_zero, List.set_cons_succ]))
  (refine u_take 1 (v := ?_) rfl rfl (by kernel_rfl) (by kernel_rfl) (fun _ _ _ h => h) (Or.inl ⟨by rfl, ?_⟩) ?_; rotate_left; (focus (intro wz hSw; (try dsimp only at hSw); go_simp; (try with_reducible rfl))); (try simp only [Act.put, List.getElem_toArray, List.getElem_cons_succ, List.getElem_cons_zero, List.setIfInBounds_toArray, List.set_cons_zero, List.set_cons_succ]))
  (refine u_take 2 (v := ?_) rfl rfl (by kernel_rfl) (by kernel_rfl) (fun _ _ _ h => h) (Or.inl ⟨by rfl, ?_⟩) ?_; rotate_left; (focus (intro wz hSw; (try dsimp only at hSw); go_simp; (try with_reducible rfl))); (try simp only [Act.put, List.getElem_toArray, List.getElem_cons_succ, List.getElem_cons_zero, List.setIfInBounds_toArray, List.set_cons_zero, List.set_cons_succ]))
  (refine u_take 3 (v := ?_) rfl rfl (by kernel_rfl) (by kernel_rfl) (fun _ _ _ h => h) (Or.inl ⟨by rfl, ?_⟩) ?_; rotate_left; (focus (intro wz hSw; (try dsimp only at hSw); go_simp; (try with_reducible rfl))); (try simp only [Act.put, List.getElem_toArray, List.getElem_cons_succ, List.getElem_cons_zero, List.setIfInBounds_toArray, List.set_cons_zero, List.set_cons_succ]))
  (refine u_take 5 (v := ?_) rfl rfl (by kernel_rfl) (by kernel_rfl) (fun _ _ _ h => h) (Or.inl ⟨by rfl, ?_⟩) ?_; rotate_left; (focus (intro wz hSw; (try dsimp only at hSw); go_simp; (try with_reducible rfl))); (try simp only [Act.put, List.getElem_toArray, List.getElem_cons_succ, List.getElem_cons_zero, List.setIfInBounds_toArray, List.set_cons_zero, List.set_cons_succ]))
  refine u_one 4 (by kernel_rfl) rfl rfl (fun Kq hKq => ?_)
  go_simp
  refine (HW.out _ _ _ _).mono ?_
  rintro r w8 ⟨rfl, F8⟩
  have F78 : Fr [] W7 w8 := (Fr.drew (Fr.refl _ _)).trans F8
  have B8 := Blk.via F78 (by simp) B7
  have C8 := Blk.via F78 (by simp) C7
  have P8 := Blk.via F78 (by simp) P7
  have R8 := R7.fr F78 (by simp)
  have c8 := C8.cell
  have f8 := C8.frozen
  have l8 := C8.lt
  refine hKq _ _ ⟨fun i => B8.cell i, fun i => P8.cell i⟩ ?_
  clear hKq Kq c7 f7 l7
  (try simp only [Act.put, List.getElem_toArray, List.getElem_cons_succ, List.getElem_cons_zero, List.setIfInBounds_toArray, List.set_cons_zero, List.set_cons_succ])
  refine u_one 6 (by kernel_rfl) rfl rfl (fun Kq hKq => ?_)
  go_simp
  generalize hW' : World.setCell w8 _ _ = W9
  have hW := hW'.symm
  have C9 : Blk W9 (w.heap.size + 1) 100 (resA 0 (.slice A fs.length c) ord0 left 0) := Blk.eqv hW ((C8.same 9 _).cast rfl)
  have B9 := Blk.eqv hW (B8.off (o := 9) (u := .int .i64 left) (show w.heap.size ≠ w.heap.size + 1 by omega))
  have P9 := Blk.eqv hW (P8.off (o := 9) (u := .int .i64 left) (show w3.heap.size ≠ w.heap.size + 1 by omega))
  have F89 : Fr [w.heap.size + 1] w8 W9 := Fr.eqv hW ((Fr.refl _ _).setIn (by simp))
  have R9 := R8.fr F89 (fun g hg hm => by have := HV.out g hg; have := List.mem_singleton.1 hm; omega)
  have c9 := C9.cell
  have f9 := C9.frozen
  have l9 := C9.lt
  refine hKq _ _ ⟨fun i => B9.cell i, fun i => P9.cell i⟩ ?_
  clear hKq Kq hW hW' c8 f8 l8
  (try simp only [Act.put, List.getElem_toArray, List.getElem_cons_succ, List.getElem_cons_zero, List.setIfInBounds_toArray, List.set_cons_zero, List.set_cons_succ])
  (refine u_take 7 (v := ?_) rfl rfl (by kernel_rfl) (by kernel_rfl) (fun _ _ _ h => h) (Or.inl ⟨by rfl, ?_⟩) ?_; rotate_left; (focus (intro wz hSw; (try dsimp only at hSw); go_simp; (try with_reducible rfl))); (try simp only [Act.put, List.getElem_toArray, List.getElem_cons_succ, List.getElem_cons_zero, List.setIfInBounds_toArray, List.set_cons_zero, List.set_cons_succ]))
  refine u_last (by kernel_rfl) rfl (by kernel_rfl) ?_
  have C10 : Blk (W9.setCell ⟨w.heap.size + 1, 10, none⟩ (.int .i64 wy)) (w.heap.size + 1) 100 (resA 0 (.slice A fs.length c) ord0 left wy) := (C9.same 10 _).cast rfl
  have F69 : Fr D w W9 := fr_own (by omega) ((fr_own (by omega) F06 F67).trans (F78.mono (by simp))) F89
  have HF9 := Lib.hid (F69.setNew (b := w.heap.size + 1) (o := 10) (u := .int .i64 wy) (by omega))
  have HIt := Lib.hid (fun (W : World) (h : Fr [w.heap.size + 1] w6 W) => HI6.out.fr h (fun x hm hx => by have := hDl x hm; have := List.mem_singleton.1 hx; omega))
  have HRt := Lib.hid (fun (W : World) (h : Fr [w.heap.size + 1] W9 W) => R9.fr h (fun g hg hm => by have := HV.out g hg; have := List.mem_singleton.1 hm; omega))
  have F9 : Fr [w.heap.size + 1] w6 W9 := ((F67.trans (F78.mono (by simp))).trans F89)
  go_wp2_with (first
    | (refine wpList_loadR rfl (.tmp 4) rfl (w.heap.size + 1) 0 (.slice A fs.length c) ord0 left wy rfl C10 ?_)
    | (refine wpList_storeR rfl (.tmp 4) (.tmp 37) rfl (w.heap.size + 1) _ 0 A fs.length c ord0 left wy rfl rfl C10 rfl ?_
       intro w11 C11 F11))
  have c11 := C11.cell
  have F9t : Fr [w.heap.size + 1] W9 w11 := ((Fr.refl _ _).setIn (by simp)).trans F11
  exact bodyPost_ret (v := .agg (resA 0 (.slice A fs.length c) ord0 left wy)) (by simp [results, Try.results51, go_sem, c11]) rfl ⟨_, rfl, fr_own (by omega) F69 F9t, HIt.out _ (F9.trans F9t), HRt.out _ F9t, fun g hg => by have := HV.out g hg; omega⟩
end Go.Proofs.Ytkimldeagndgjaa

/- What comes of an order that comes and rests (match.Enter), walked. -/
namespace Go.Proofs.Ytkimldeagndgjaa
set_option linter.unusedVariables false
set_option linter.unusedSimpArgs false
open Go.RowKit Go.Shelf

def Entr.rest (e : Entr) (left : Int) : Ord := { e.o with pr := edgeV e, qt := left }
theorem Blk.there {w : World} {g : Nat} {t : TypeId} {cs : Array Value} (h : Blk w g t cs) {o n : Nat} (hn : o + n ≤ cs.size) : w.there g o n := fun j hj =>
  ⟨by rw [h.cell, Array.getElem?_eq_getElem (by omega)]; rfl, h.frozen _⟩
theorem wpList_storeRest {ops : Array Oper} {rest : List Oper} {p : Oper} {a : Act} {w : World} {Q : Exit → Act → World → Prop} (hgd : p.guard = none) (x y : Operand) (hp : p.op = .store 43 x y)
    (g : Nat) (f : Int) (v : Value) (o' o : Ord) (gone why : Int) (hx : a.eval x = .pointer (some ⟨g, 2, none⟩)) (hy : a.eval y = .agg o.a) (B : Blk w g 100 (resA f v o' gone why))
    (h : ∀ w', Blk w' g 100 (resA f v o gone why) → Fr [g] w w' → wpList Try.prog ops Q rest (a.put p.dst undef) w') : wpList Try.prog ops Q (p :: rest) a w := by
  refine wpList_store_mid hgd _ x y hp g 2 _ hx hy (B.there (by simp)) info_ord (by simp [Value.oneCell']) (h _ ?_ (fr_setCells g (.inl (by simp)) _ _ _ (Fr.refl _ _)))
  have e0 := B.same (2 + 0) (.int .i64 o.id)
  have e1 := e0.same (2 + 1) (.int .i64 o.ow)
  have e2 := e1.same (2 + 2) (.int .i64 o.sd)
  have e3 := e2.same (2 + 3) (.int .i64 o.pr)
  have e4 := e3.same (2 + 4) (.int .i64 o.qt)
  have e5 := e4.same (2 + 5) (.int .i64 o.fl)
  have e6 := e5.same (2 + 6) (.int .i64 o.sq)
  exact Blk.cast e6 (by simp)
theorem wpList_loadEO {ops : Array Oper} {rest : List Oper} {p : Oper} {a : Act} {w : World} {Q : Exit → Act → World → Prop} (hgd : p.guard = none) (x : Operand) (hp : p.op = .load 43 x)
    (g : Nat) (e : Entr) (hx : a.eval x = .pointer (some ⟨g, 0, none⟩)) (B : Blk w g 102 e.a) (h : wpList Try.prog ops Q rest (a.put p.dst (.agg e.o.a)) w) : wpList Try.prog ops Q (p :: rest) a w := by
  refine wpList_load_mid hgd _ x hp g 0 hx e.o.l _ (fun j v hj => ?_) Try.underlying43 rfl info_ord h
  have hl : j < 7 := (List.getElem?_eq_some_iff.1 hj).1
  rw [B.cell, ← hj]
  rcases (show j = 0 ∨ j = 1 ∨ j = 2 ∨ j = 3 ∨ j = 4 ∨ j = 5 ∨ j = 6 by omega) with rfl | rfl | rfl | rfl | rfl | rfl | rfl <;> rfl
theorem wpList_loadRO {ops : Array Oper} {rest : List Oper} {p : Oper} {a : Act} {w : World} {Q : Exit → Act → World → Prop} (hgd : p.guard = none) (x : Operand) (hp : p.op = .load 43 x)
    (g : Nat) (f : Int) (v : Value) (o : Ord) (gone why : Int) (hx : a.eval x = .pointer (some ⟨g, 2, none⟩)) (B : Blk w g 100 (resA f v o gone why)) (h : wpList Try.prog ops Q rest (a.put p.dst (.agg o.a)) w) : wpList Try.prog ops Q (p :: rest) a w := by
  refine wpList_load_mid hgd _ x hp g 2 hx o.l _ (fun j v hj => ?_) Try.underlying43 rfl info_ord h
  have hl : j < 7 := (List.getElem?_eq_some_iff.1 hj).1
  rw [B.cell, ← hj]
  rcases (show j = 0 ∨ j = 1 ∨ j = 2 ∨ j = 3 ∨ j = 4 ∨ j = 5 ∨ j = 6 by omega) with rfl | rfl | rfl | rfl | rfl | rfl | rfl <;> rfl

set_option maxHeartbeats 8000000 in
set_option maxRecDepth 5000 in
theorem enter_rest (w : World) (b : Nat) (D : List Nat) (N K : Nat) (L : List Ord) (h : BookI w b D N K L) (e : Entr) (hp : In64 e.o.pr) (Y : List Ord) (hY : (e.o.sd = 0 ∨ e.o.sd = 1) → OfL (1 - e.o.sd) L Y) (hc : checkF e N K L Y = 0)
    (fs : List Fil) (left stop : Int) (hm : mkL (takOf e) Y [] e.o.qt = (fs, left, stop)) (hr : restsB e Y fs left stop = true) :
    Calls Try.prog 51 #[.pointer (some ⟨b, 0, none⟩), .agg e.a] w fun r w' => ∃ v, r = .returned (.agg (resA 0 v (e.rest left) 0 0)) ∧ Makes w b D N K (addL N K (apL fs L).2 (e.rest left)) w' ∧ RowF w' v fs ∧ ∀ g, v.ownBlock = some g → w.heap.size ≤ g := by
  obtain ⟨k1, k2, k3, k4, k5, k6⟩ := check_ok hc
  have hs := (bad_no k1).1
  have hq := (rng_no k2).1
  have hlen := plan_len h (hY hs) (takOf e) e.o.qt
  rw [hm] at hlen
  have HC := Lib.hid (fun W (hf : Fr [] w W) => check_any W b D N K L (h.fr hf (by simp)) e hp Y hY)
  have HP := Lib.hid (fun W (hf : Fr [] w W) => plan_any W b N K D L (h.fr hf (by simp)) e hs (by omega) Y (hY hs))
  have HRs := Lib.hid (fun W (hf : Fr [] w W) (v : Value) (hR : RowF W v fs) => rests_any W b N K D L (h.fr hf (by simp)) e hs Y (hY hs) v left stop fs hR (by simp at hlen; omega))
  have HAp := Lib.hid (fun W (hf : Fr [] w W) (v : Value) (hR : RowF W v fs) (hv : ∀ g, v.ownBlock = some g → w.heap.size ≤ g) => apply_any W b D N K L (h.fr hf (by simp)) v left stop fs hR (fun g hg hm => by have := h.lts' g hm; have := hv g hg; omega) (by simp at hlen; omega))
  have HEd := Lib.hid (fun W => edge_any W e)
  rw [hc] at HC
  rw [hm] at HP
  rw [hr] at HRs
  simp only at HP
  have hDl : ∀ x ∈ D, x < w.heap.size := h.lts'
  generalize apL fs L = ap at HAp ⊢
  clear h hp hY hc hr k1 k2 k3 k4 k5 k6 hs hq hlen hm
  go_enter Try.func51, Try.ntmps51
  go_wp2_with fail
  refine calls_named (fun W0 hW => ?_)
  have B0 : Blk W0 w.heap.size 102 e.a := Blk.box1 hW
  have C0' := Blk.box0 hW
  simp only [World.size_alloc] at C0'
  have C0 : Blk W0 (w.heap.size + 1) 100 (resA 0 (.slice none 0 0) ord0 0 0) := C0'
  have F0 : Fr [] w W0 := Fr.eqv hW (by with_reducible repeat (first | exact Fr.refl _ _ | assumption | apply Fr.drew | apply Fr.drewN | apply Fr.alloc | (apply Fr.step; assumption; (intro _ h; (first | exact h | (focus (simp_all; done))))) | (apply Fr.setIn; (first | exact List.mem_cons_self | exact List.mem_cons_of_mem _ List.mem_cons_self | exact List.mem_cons_of_mem _ (List.mem_cons_of_mem _ List.mem_cons_self) | exact List.mem_cons_of_mem _ (List.mem_cons_of_mem _ (List.mem_cons_of_mem _ List.mem_cons_self)))) | (apply Fr.setNew; (first | omega | (simp; omega)))))
  clear hW C0'
  refine (HC.out W0 F0).mono ?_
  rintro r w1 ⟨rfl, F1⟩
  have B1 := Blk.via F1 (by simp) B0
  have C1 := Blk.via F1 (by simp) C0
  have F01 := F0.trans F1
  have d1 := B1.cell
  have c1 := C1.cell
  have f1 := C1.frozen
  have l1 := C1.lt
  clear B0 C0 F0 F1 HC
  go_wp2_with fail
  refine calls_named (fun W2 hW => ?_)
  have C2 : Blk W2 (w.heap.size + 1) 100 (resA 0 (.slice none 0 0) ord0 0 0) := Blk.eqv hW ((C1.same 0 _).cast rfl)
  have B2 := Blk.eqv hW (B1.off (o := 0) (u := .int .i64 0) (show w.heap.size ≠ w.heap.size + 1 by omega))
  have F2 : Fr [] w W2 := Fr.eqv hW (F01.setNew (by omega))
  have s2 := C2.lt
  clear hW B1 C1 F01 d1 c1 f1 l1
  refine (HP.out W2 F2).mono ?_
  rintro r w3 ⟨v, rfl, F3, R3, hv⟩
  have B3 := Blk.via F3 (by simp) B2
  have C3 := Blk.via F3 (by simp) C2
  have F03 := F2.trans F3
  have d3 := B3.cell
  have l3 := B3.lt
  have m3 := C3.lt
  have HR3 := Lib.hid R3
  have HV : Hid (∀ g, v.ownBlock = some g → w.heap.size + 2 ≤ g) := Lib.hid (fun g hg => by have := hv g hg; omega)
  obtain ⟨A, c, rfl, _⟩ := R3.form
  clear B2 C2 F2 F3 R3 hv HP s2
  go_wp2_with fail
  refine calls_named (fun W4 hW => ?_)
  have P4 := Blk.box0 hW
  have B4 := Blk.eqv hW (B3.alloc _)
  have C4 := Blk.eqv hW (C3.alloc _)
  have F4 : Fr [] w3 W4 := Fr.eqv hW (by with_reducible repeat (first | exact Fr.refl _ _ | assumption | apply Fr.drew | apply Fr.drewN | apply Fr.alloc | (apply Fr.step; assumption; (intro _ h; (first | exact h | (focus (simp_all; done))))) | (apply Fr.setIn; (first | exact List.mem_cons_self | exact List.mem_cons_of_mem _ List.mem_cons_self | exact List.mem_cons_of_mem _ (List.mem_cons_of_mem _ List.mem_cons_self) | exact List.mem_cons_of_mem _ (List.mem_cons_of_mem _ (List.mem_cons_of_mem _ List.mem_cons_self)))) | (apply Fr.setNew; (first | omega | (simp; omega)))))
  have p4n : w.heap.size + 2 ≤ w3.heap.size := by have := C3.lt; omega
  have R4 := HR3.out.fr F4 (by simp)
  have F04 := F03.trans F4
  clear hW B3 C3 d3 l3 m3 F03 F4
  refine (HRs.out W4 F04 _ R4).mono ?_
  rintro r w5 ⟨rfl, F5⟩
  have B5 := Blk.via F5 (by simp) B4
  have C5 := Blk.via F5 (by simp) C4
  have P5 := Blk.via F5 (by simp) P4
  have R5 := R4.fr F5 (by simp)
  have F05 := F04.trans F5
  have q5 := P5.cell
  clear B4 C4 P4 R4 F04 F5 HRs
  go_wp2_with fail
  refine (HAp.out w5 F05 _ R5 (fun g hg => by have := HV.out g hg; omega)).mono ?_
  rintro r w6 ⟨rfl, F6, I6⟩
  have nD : ∀ g, w.heap.size ≤ g → g ∉ D := fun g hg hm => by have := hDl g hm; omega
  have B6 := Blk.via F6 (nD _ (by omega)) B5
  have C6 := Blk.via F6 (nD _ (by omega)) C5
  have P6 := Blk.via F6 (nD _ (by omega)) P5
  have R6 := R5.fr F6 (fun g hg => nD g (by have := HV.out g hg; omega))
  have F06 : Fr D w w6 := (F05.mono (by simp)).trans F6
  have HI6 := Lib.hid I6
  have c6 := C6.cell
  have f6 := C6.frozen
  have l6 := C6.lt
  have q6 := P6.cell
  clear B5 C5 P5 R5 F05 F6 I6 q5 HAp
  have C7 : Blk (w6.setCell ⟨w.heap.size + 1, 1, none⟩ (.slice A fs.length c)) (w.heap.size + 1) 100 (resA 0 (.slice A fs.length c) ord0 0 0) := (C6.same 1 _).cast rfl
  have B7 := B6.off (o := 1) (u := .slice A fs.length c) (show w.heap.size ≠ w.heap.size + 1 by omega)
  have P7 := P6.off (o := 1) (u := .slice A fs.length c) (show w3.heap.size ≠ w.heap.size + 1 by omega)
  have HF67 := Lib.hid (((Fr.refl [w.heap.size + 1] w6).setIn (by simp) : Fr [w.heap.size + 1] w6 (w6.setCell ⟨w.heap.size + 1, 1, none⟩ (.slice A fs.length c))))
  go_wp2_with (first
    | (refine wpList_loadEO rfl (.tmp 38) rfl w.heap.size e rfl B7 ?_)
    | (refine wpList_storeRest rfl (.tmp 40) (.tmp 39) rfl (w.heap.size + 1) 0 _ ord0 e.o 0 0 rfl rfl C7 ?_
       intro W7 C8 F8))
  have B8 := B7.fr F8 (by simp)
  have P8 := P7.fr F8 (by simp; omega)
  have F68 : Fr [w.heap.size + 1] w6 W7 := HF67.out.trans F8
  have R8 := R6.fr F68 (fun g hg hm => by have := HV.out g hg; have := List.mem_singleton.1 hm; omega)
  clear C7 B7 P7 HF67 c6 f6 l6 q6 B6 C6 P6 R6
  have c8 := C8.cell
  have f8 := C8.frozen
  have l8 := C8.lt
  refine u_region (S := fun w' => (∀ i, w'.cell? ⟨w.heap.size, i, none⟩ = (e.a)[i]?) ∧ ∀ i, w'.cell? ⟨w3.heap.size, i, none⟩ = (#[Value.slice A fs.length c, .int .i64 left, .int .i64 stop] : Array Value)[i]?) 9 (by kernel_rfl) (by kernel_rfl) (by kernel_rfl) (by kernel_rfl) (by kernel_rfl) ⟨fun i => B8.drew.cell i, fun i => P8.drew.cell i⟩ ?_
  (refine u_take 0 (v := ?_) rfl rfl (by kernel_rfl) (by kernel_rfl) (fun _ _ _ h => h) (Or.inl ⟨by rfl, ?_⟩) ?_; rotate_left; (focus (intro wz hSw; (try dsimp only at hSw); go_simp; (try with_reducible rfl))); (try simp only [Act.put, List.getElem_toArray, List.getElem_cons_succ, List.getElem_cons_zero, List.setIfInBounds_toArray, List.set_cons_zero, List.set_cons_succ]))
  (refine u_take 2 (v := ?_) rfl rfl (by kernel_rfl) (by kernel_rfl) (fun _ _ _ h => h) (Or.inl ⟨by rfl, ?_⟩) ?_; rotate_left; (focus (intro wz hSw; (try dsimp only at hSw); go_simp; (try with_reducible rfl))); (try simp only [Act.put, List.getElem_toArray, List.getElem_cons_succ, List.getElem_cons_zero, List.setIfInBounds_toArray, List.set_cons_zero, List.set_cons_succ]))
  (refine u_take 3 (v := ?_) rfl rfl (by kernel_rfl) (by kernel_rfl) (fun _ _ _ h => h) (Or.inl ⟨by rfl, ?_⟩) ?_; rotate_left; (focus (intro wz hSw; (try dsimp only at hSw); go_simp; (try with_reducible rfl))); (try simp only [Act.put, List.getElem_toArray, List.getElem_cons_succ, List.getElem_cons_zero, List.setIfInBounds_toArray, List.set_cons_zero, List.set_cons_succ]))
  refine u_one 1 (by kernel_rfl) rfl rfl (fun Kq hKq => ?_)
  go_simp
  refine (HEd.out _).mono ?_
  rintro r w8 ⟨rfl, F8'⟩
  have F78 : Fr [] W7 w8 := (Fr.drew (Fr.refl _ _)).trans F8'
  have B9 := Blk.via F78 (by simp) B8
  have C9 := Blk.via F78 (by simp) C8
  have P9 := Blk.via F78 (by simp) P8
  have R9 := R8.fr F78 (by simp)
  have c9 := C9.cell
  have f9 := C9.frozen
  have l9 := C9.lt
  refine hKq _ _ ⟨fun i => B9.cell i, fun i => P9.cell i⟩ ?_
  clear hKq Kq c8 f8 l8 B8 C8 P8 R8
  (try simp only [Act.put, List.getElem_toArray, List.getElem_cons_succ, List.getElem_cons_zero, List.setIfInBounds_toArray, List.set_cons_zero, List.set_cons_succ])
  (refine u_take 4 (v := ?_) rfl rfl (by kernel_rfl) (by kernel_rfl) (fun _ _ _ h => h) (Or.inl ⟨by rfl, ?_⟩) ?_; rotate_left; (focus (intro wz hSw; (try dsimp only at hSw); go_simp; (try with_reducible rfl))); (try simp only [Act.put, List.getElem_toArray, List.getElem_cons_succ, List.getElem_cons_zero, List.setIfInBounds_toArray, List.set_cons_zero, List.set_cons_succ]))
  (refine u_take 5 (v := ?_) rfl rfl (by kernel_rfl) (by kernel_rfl) (fun _ _ _ h => h) (Or.inl ⟨by rfl, ?_⟩) ?_; rotate_left; (focus (intro wz hSw; (try dsimp only at hSw); go_simp; (try with_reducible rfl))); (try simp only [Act.put, List.getElem_toArray, List.getElem_cons_succ, List.getElem_cons_zero, List.setIfInBounds_toArray, List.set_cons_zero, List.set_cons_succ]))
  refine u_one 6 (by kernel_rfl) rfl rfl (fun Kq hKq => ?_)
  go_simp
  generalize hW' : World.setCell w8 _ _ = W9
  have hW := hW'.symm
  have C10 : Blk W9 (w.heap.size + 1) 100 (resA 0 (.slice A fs.length c) ({ e.o with pr := edgeV e } : Ord) 0 0) := Blk.eqv hW ((C9.same 5 _).cast rfl)
  have B10 := Blk.eqv hW (B9.off (o := 5) (u := .int .i64 (edgeV e)) (show w.heap.size ≠ w.heap.size + 1 by omega))
  have P10 := Blk.eqv hW (P9.off (o := 5) (u := .int .i64 (edgeV e)) (show w3.heap.size ≠ w.heap.size + 1 by omega))
  have F89 : Fr [w.heap.size + 1] w8 W9 := Fr.eqv hW ((Fr.refl _ _).setIn (by simp))
  have R10 := R9.fr F89 (fun g hg hm => by have := HV.out g hg; have := List.mem_singleton.1 hm; omega)
  have c10 := C10.cell
  have f10 := C10.frozen
  have l10 := C10.lt
  refine hKq _ _ ⟨fun i => B10.cell i, fun i => P10.cell i⟩ ?_
  clear hKq Kq hW hW' c9 f9 l9 B9 C9 P9 R9
  (try simp only [Act.put, List.getElem_toArray, List.getElem_cons_succ, List.getElem_cons_zero, List.setIfInBounds_toArray, List.set_cons_zero, List.set_cons_succ])
  (refine u_take 7 (v := ?_) rfl rfl (by kernel_rfl) (by kernel_rfl) (fun _ _ _ h => h) (Or.inl ⟨by rfl, ?_⟩) ?_; rotate_left; (focus (intro wz hSw; (try dsimp only at hSw); go_simp; (try with_reducible rfl))); (try simp only [Act.put, List.getElem_toArray, List.getElem_cons_succ, List.getElem_cons_zero, List.setIfInBounds_toArray, List.set_cons_zero, List.set_cons_succ]))
  (refine u_take 8 (v := ?_) rfl rfl (by kernel_rfl) (by kernel_rfl) (fun _ _ _ h => h) (Or.inl ⟨by rfl, ?_⟩) ?_; rotate_left; (focus (intro wz hSw; (try dsimp only at hSw); go_simp; (try with_reducible rfl))); (try simp only [Act.put, List.getElem_toArray, List.getElem_cons_succ, List.getElem_cons_zero, List.setIfInBounds_toArray, List.set_cons_zero, List.set_cons_succ]))
  refine u_last (by kernel_rfl) rfl (by kernel_rfl) ?_
  have C11 : Blk (W9.setCell ⟨w.heap.size + 1, 6, none⟩ (.int .i64 left)) (w.heap.size + 1) 100 (resA 0 (.slice A fs.length c) (e.rest left) 0 0) := (C10.same 6 _).cast rfl
  have F611 : Fr [w.heap.size + 1] w6 (W9.setCell ⟨w.heap.size + 1, 6, none⟩ (.int .i64 left)) := ((F68.trans (F78.mono (by simp))).trans F89).setIn (by simp)
  go_wp2_with (refine wpList_loadRO rfl (.tmp 50) rfl (w.heap.size + 1) 0 _ (e.rest left) 0 0 rfl C11 ?_)
  refine calls_named (fun W11 hW => ?_)
  have C12 := Blk.eqv hW C11
  have F612 : Fr [w.heap.size + 1] w6 W11 := Fr.eqv hW F611
  have F912 : Fr [w.heap.size + 1] W9 W11 := Fr.eqv hW ((Fr.refl _ _).setIn (by simp))
  have R12 := R10.fr F912 (fun g hg hm => by have := HV.out g hg; have := List.mem_singleton.1 hm; omega)
  have I12 := HI6.out.fr F612 (fun x hm hx => by have := hDl x hm; have := List.mem_singleton.1 hx; omega)
  have F012 : Fr D w W11 := fr_own (by omega) F06 F612
  clear hW C11 F611 C10 B10 P10 F89 R10 f10 l10
  refine (bookAdd_any W11 b D N K _ I12 (e.rest left)).mono ?_
  rintro r w13 ⟨rfl, F13, D', I13, hD'⟩
  have C13 := Blk.via F13 (nD _ (by omega)) C12
  have R13 := R12.fr F13 (fun g hg => nD g (by have := HV.out g hg; omega))
  have F013 := F012.trans F13
  have HI13 := Lib.hid I13
  have hD2 : ∀ x ∈ D', x ∈ D ∨ W11.heap.size ≤ x := hD'
  have s11 := C12.lt
  have n1 : ∀ x ∈ D', x ≠ w.heap.size + 1 := fun x hx e => by
    rcases hD2 x hx with h1 | h1
    · exact nD (w.heap.size + 1) (by omega) (e ▸ h1)
    · omega
  have HD3 : Hid (∀ x ∈ D', x ∈ D ∨ w.heap.size ≤ x) := Lib.hid (fun x hx => (hD2 x hx).imp id (fun h => by omega))
  clear I13 hD' hD2 I12 R12 C12
  go_wp2_with (first
    | (refine wpList_loadR rfl (.tmp 4) rfl (w.heap.size + 1) 0 (.slice A fs.length c) (e.rest left) 0 0 rfl C13 ?_)
    | (refine wpList_storeR rfl (.tmp 4) (.tmp 53) rfl (w.heap.size + 1) _ 0 A fs.length c (e.rest left) 0 0 rfl rfl C13 rfl ?_
       intro w14 C14 F14))
  have c14 := C14.cell
  exact bodyPost_ret (v := .agg (resA 0 (.slice A fs.length c) (e.rest left) 0 0)) (by simp [results, Try.results51, go_sem, c14]) rfl ⟨_, rfl, ⟨fr_own (by omega) F013 F14, D', HI13.out.fr F14 (fun x hx hm => n1 x hx (List.mem_singleton.1 hm)), HD3.out⟩, R13.fr F14 (fun g hg hm => by have := HV.out g hg; have := List.mem_singleton.1 hm; omega), fun g hg => by have := HV.out g hg; omega⟩
end Go.Proofs.Ytkimldeagndgjaa
