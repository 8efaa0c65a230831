/- The row of the law MatchTypes: for every input the law returns true, and each argument reads behind the call as it read before. Out of the walk matchTypes_walk. -/
import Derived.WalkKit
import Derived.ProofKit
import Derived.OpenShut
import Derived.ShutString
import Derived.ChangeOld
import Derived.Below
import Derived.SizedLaws
import Derived.Test.YtkimldeagndgjaaRows
import Derived.Test.YtkimldeagndgjaaG7
import Derived.Test.YtkimldeagndgjaaG9
import Derived.Test.YtkimldeagndgjaaG12
import Derived.Test.YtkimldeagndgjaaG13
/- What the types of orders that come ask for: plain facts; and what Enter does, as the law asks it. -/
namespace Go.Proofs.Ytkimldeagndgjaa
set_option linter.unusedVariables false
set_option linter.unusedSimpArgs false
open Go.RowKit

theorem mk_none (t : Tak) (Y : List Ord) (left : Int) (h : reachB t.sd t.lim Y = false) : (mkL t Y [] left).1 = [] := by
  cases Y with
  | nil => rfl
  | cons o r =>
    have hw : worseB t.sd o.pr t.lim = true := by
      unfold reachB at h
      simpa [bestP] using h
    rw [mkL]
    split
    · rfl
    · first | rfl | rw [if_pos hw]
/-- What the law MatchTypes asks of an entry that is taken. -/
structure Typed (w w' : World) (e : Entr) (v : Value) (fs : List Fil) (o : Ord) (gone : Int) : Prop where
  row : RowF w' v fs
  len : fs.length ≤ 500
  own : ∀ g, v.ownBlock = some g → w.heap.size ≤ g
  q : ∀ f ∈ fs, 0 ≤ f.qt ∧ f.qt ≤ 4294967296
  sd : e.o.sd = 0 ∨ e.o.sd = 1
  ty : 1 ≤ e.ty ∧ e.ty ≤ 5
  all : e.ty = 4 → gone = 0 ∧ o.qt = 0 ∧ trS fs = e.o.qt
  post : e.ty = 5 → fs = []
  mkt : e.ty = 2 ∨ e.ty = 3 → o.qt = 0
  pr : ∀ f ∈ fs, ¬ f.pr < e.lo ∧ ¬ e.hi < f.pr ∧ (e.ty ≠ 2 → betterB e.o.sd f.pr e.o.pr = false)
  rest : 0 < o.qt → (e.o.sd = 0 → ¬ e.hi < o.pr) ∧ (e.o.sd = 1 → ¬ o.pr < e.lo)
theorem enter_typed (w : World) (b : Nat) (D : List Nat) (N K : Nat) (L : List Ord) (h : BookI w b D N K L) (e : Entr) (hp : In64 e.o.pr) :
    Calls Try.prog 51 #[.pointer (some ⟨b, 0, none⟩), .agg e.a] w fun r w' => ∃ f v o gone why, r = .returned (.agg (resA f v o gone why)) ∧ Fr D w w' ∧
      ((f ≠ 0 ∧ v = .slice none 0 0) ∨ (f = 0 ∧ ∃ fs, Typed w w' e v fs o gone)) := by
  obtain ⟨Y, hY⟩ : ∃ Y, (e.o.sd = 0 ∨ e.o.sd = 1) → OfL (1 - e.o.sd) L Y := by
    by_cases hs : e.o.sd = 0 ∨ e.o.sd = 1
    · obtain ⟨Y, h⟩ := h.of (1 - e.o.sd) (by omega)
      exact ⟨Y, fun _ => h⟩
    · exact ⟨[], fun h => absurd h hs⟩
  refine (enter_any w b D N K L h e hp Y hY).mono fun r w' ho => ?_
  rcases ho with ⟨hc, rfl, hf⟩ | ⟨hc, fs, left, stop, L', v, hm, hE, hl, hR, hv, h2⟩
  · exact ⟨_, _, _, _, _, rfl, hf.mono (by simp), .inl ⟨hc, rfl⟩⟩
  · obtain ⟨k1, k2, k3, k4, k5, k6⟩ := check_ok hc
    have hb := bad_no k1
    have hr2 := (rng_no k2).2
    have hfq : ∀ f ∈ fs, 0 ≤ f.qt ∧ f.qt ≤ 4294967296 := fun f hf => by have := hE.fill f hf; omega
    have hl0 := hE.left0
    have hsum := hE.sum
    have hpr : ∀ f ∈ fs, ¬ f.pr < e.lo ∧ ¬ e.hi < f.pr ∧ (e.ty ≠ 2 → betterB e.o.sd f.pr e.o.pr = false) := fun f hf => by
      have h3 := hE.fill f hf
      refine ⟨by omega, by omega, fun ht => ?_⟩
      have h4 := h3.2.2.2.2
      unfold worseB limV at h4
      unfold rangedB at hr2
      rw [if_neg ht] at h4 hr2
      rw [Bool.or_eq_false_iff, decide_eq_false_iff_not, decide_eq_false_iff_not] at hr2
      have h5 : (e.o.pr == 0) = false := by simp; omega
      rw [h5] at h4
      simpa using h4
    have hpost : e.ty = 5 → fs = [] := fun ht => by
      unfold crossB at k4
      rw [ht] at k4
      have h3 := mk_none (takOf e) Y e.o.qt (by
        simp only [takOf, limV, ht]
        simpa using k4)
      rw [hm] at h3; exact h3
    have hall : e.ty = 4 → left = 0 := fun ht => by
      unfold noneB at k5
      rw [ht, hm] at k5
      simp at k5
      omega
    rcases h2 with ⟨hr, rfl, hM⟩ | ⟨hr, rfl, hM⟩
    · exact ⟨_, _, _, _, _, rfl, hM.1, .inr ⟨rfl, fs, hR, hl, hv, hfq, hb.1, hb.2, fun ht => ⟨hall ht, rfl, by have := hall ht; omega⟩, hpost, fun _ => rfl, hpr, fun h => absurd h (by simp [ord0])⟩⟩
    · obtain ⟨r1, r2, r3, r4, r5, r6, r7⟩ := rests_yes hr
      refine ⟨_, _, _, _, _, rfl, hM.1, .inr ⟨rfl, fs, hR, hl, hv, hfq, hb.1, hb.2, fun ht => absurd (hall ht) r1, hpost, fun ht => ?_, hpr, fun _ => ?_⟩⟩
      · exfalso
        unfold staysB at r3
        rcases ht with ht | ht <;> rw [ht] at r3 <;> simp at r3
      · unfold beyondB at r6
        simp only [Entr.rest]
        refine ⟨fun e0 => ?_, fun e1 => ?_⟩
        · rw [if_pos e0] at r6; exact of_decide_eq_false r6
        · rw [if_neg (by omega), if_pos e1] at r6; exact of_decide_eq_false r6
end Go.Proofs.Ytkimldeagndgjaa

/- The law MatchTypes, walked. Printed by gen_types.py. -/
namespace Go.Proofs.Ytkimldeagndgjaa
set_option linter.unusedVariables false
set_option linter.unusedSimpArgs false
open Go.RowKit

theorem info_rent2 : (Try.prog.info? 98).map (·.size) = some 11 := by kernel_rfl
theorem wpList_loadE98 {ops : Array Oper} {rest : List Oper} {p : Oper} {a : Act} {w : World} {Q : Exit → Act → World → Prop} (hgd : p.guard = none) (x : Operand) (hp : p.op = .load 98 x)
    (g : Nat) (e : Entr) (hx : a.eval x = .pointer (some ⟨g, 0, none⟩)) (B : Blk w g 98 e.a) (h : wpList Try.prog ops Q rest (a.put p.dst (.agg e.a)) w) : wpList Try.prog ops Q (p :: rest) a w :=
  wpList_load_row hgd _ x hp g hx _ _ (0, 0) _ B Try.underlying98 rfl info_rent2 h

set_option maxHeartbeats 8000000 in
set_option maxRecDepth 5000 in
theorem matchTypes_core (w : World) (A0 : Option Addr) (n0 c0 : Nat) (F0 : Nat → Nat → Int) (w0 : IntRow w A0 n0 7 F0) (m0 : n0 ≤ maxLen) (e : Entr) (hp : In64 e.o.pr) :
    Calls Try.prog 10 #[.slice A0 n0 c0, .agg e.a] w fun e w' => e = .returned (.bool true) ∧ Below w.heap.size w w' := by
  have hm : (n0 : Int) ≤ 9223372036854775807 := by simp only [maxLen] at m0; omega
  have HR := Lib.hid w0
  clear w0 m0
  by_cases hlen : 60 < n0
  · have t1 : (60 : Int) < (n0 : Int) := by omega
    go_enter Try.func10, Try.ntmps10
    go_wp2_with fail
    refine calls_named (fun W0 hW => ?_)
    have F0 : Fr [] w W0 := Fr.eqv hW (by with_reducible repeat (first | exact Fr.refl _ _ | assumption | apply Fr.drew | apply Fr.drewN | apply Fr.alloc | (apply Fr.step; assumption; (intro _ h; (first | exact h | (focus (simp_all; done))))) | (apply Fr.setIn; (first | exact List.mem_cons_self | exact List.mem_cons_of_mem _ List.mem_cons_self | exact List.mem_cons_of_mem _ (List.mem_cons_of_mem _ List.mem_cons_self) | exact List.mem_cons_of_mem _ (List.mem_cons_of_mem _ (List.mem_cons_of_mem _ List.mem_cons_self)))) | (apply Fr.setNew; (first | omega | (simp; omega)))))
    clear hW
    refine (alive15_any _).mono ?_
    rintro e w2 ⟨rfl, hf⟩
    go_wp2_with fail
    go_ret
    exact ⟨rfl, (F0.trans hf).toBelow⟩
  · have t1 : ¬ (60 : Int) < (n0 : Int) := by omega
    have hn : n0 ≤ 60 := by omega
    go_enter Try.func10, Try.ntmps10
    go_wp2_with fail
    refine calls_named (fun W0 hW => ?_)
    have E0 : Blk W0 w.heap.size 98 e.a := Blk.box0 hW
    have F0 : Fr [] w W0 := Fr.eqv hW (by with_reducible repeat (first | exact Fr.refl _ _ | assumption | apply Fr.drew | apply Fr.drewN | apply Fr.alloc | (apply Fr.step; assumption; (intro _ h; (first | exact h | (focus (simp_all; done))))) | (apply Fr.setIn; (first | exact List.mem_cons_self | exact List.mem_cons_of_mem _ List.mem_cons_self | exact List.mem_cons_of_mem _ (List.mem_cons_of_mem _ List.mem_cons_self) | exact List.mem_cons_of_mem _ (List.mem_cons_of_mem _ (List.mem_cons_of_mem _ List.mem_cons_self)))) | (apply Fr.setNew; (first | omega | (simp; omega)))))
    clear hW
    refine (books_any W0 A0 n0 c0 _ (HR.out.below F0.toBelow) hn).mono ?_
    rintro _ w1 ⟨b, r, D, T, rfl, TB⟩
    have E1 := Blk.via TB.fr (by simp) E0
    go_wp2_with (refine wpList_loadE98 rfl (.tmp 3) rfl w.heap.size e rfl E1 ?_)
    refine (own_any _ _).mono ?_
    rintro _ w4 ⟨rfl, F4⟩
    have E4 := Blk.via F4 (by simp) E1
    have TB4 := TB.keep F4
    clear TB E1 F4
    go_wp2_with fail
    refine (enter_typed w4 b D 60 60 _ TB4.b e hp).mono ?_
    rintro _ w5 ⟨f, v, o, gone, why, rfl, F5, h5⟩
    have E5 := Blk.via F5 (fun hm => by have := TB4.nb _ hm; have := E0.lt; omega) E4
    have FW5 : Fr [] w w5 := F0.trans (fr_newD TB4.nb TB4.fr F5)
    clear TB4 E4 E0 F0 F5 hp
    have e5 := E5.cell
    have l5 := E5.lt
    rcases h5 with ⟨hf, rfl⟩ | ⟨rfl, fs, K⟩
    · have hf' : (f != 0) = true := by simpa using hf
      clear hf
      go_wp2_with fail
      refine calls_named (fun W6 hW => ?_)
      have F6 : Fr [] w5 W6 := Fr.eqv hW (by with_reducible repeat (first | exact Fr.refl _ _ | assumption | apply Fr.drew | apply Fr.drewN | apply Fr.alloc | (apply Fr.step; assumption; (intro _ h; (first | exact h | (focus (simp_all; done))))) | (apply Fr.setIn; (first | exact List.mem_cons_self | exact List.mem_cons_of_mem _ List.mem_cons_self | exact List.mem_cons_of_mem _ (List.mem_cons_of_mem _ List.mem_cons_self) | exact List.mem_cons_of_mem _ (List.mem_cons_of_mem _ (List.mem_cons_of_mem _ List.mem_cons_self)))) | (apply Fr.setNew; (first | omega | (simp; omega)))))
      clear hW
      refine (alive15_any _).mono ?_
      rintro _ w2 ⟨rfl, hf⟩
      go_wp2_with fail
      go_ret
      exact ⟨rfl, ((FW5.trans F6).trans hf).toBelow⟩
    · obtain ⟨A, c, rfl, _⟩ := K.row.form
      have hl5 := K.len
      have K := Lib.hid K
      rcases (show e.ty = 1 ∨ e.ty = 2 ∨ e.ty = 3 ∨ e.ty = 4 ∨ e.ty = 5 by have := K.out.ty; omega) with hty | hty | hty | hty | hty
      · have y2 : (e.ty == 2) = false := by rw [hty]; rfl
        have y3 : (e.ty == 3) = false := by rw [hty]; rfl
        have y4 : (e.ty == 4) = false := by rw [hty]; rfl
        have y5 : (e.ty == 5) = false := by rw [hty]; rfl
        have y22 : (e.ty != 2) = true := by rw [hty]; rfl
        go_wp2_with fail
        refine wp_name (fun W7 hW => ?_)
        have C7 : Blk W7 w5.heap.size 100 (resA 0 (.slice A fs.length c) o gone why) := Blk.box0 hW
        have E7 : Blk W7 w.heap.size 98 e.a := Blk.eqv hW (E5.alloc _)
        have F57 : Fr [] w5 W7 := Fr.eqv hW (by with_reducible repeat (first | exact Fr.refl _ _ | assumption | apply Fr.drew | apply Fr.drewN | apply Fr.alloc | (apply Fr.step; assumption; (intro _ h; (first | exact h | (focus (simp_all; done))))) | (apply Fr.setIn; (first | exact List.mem_cons_self | exact List.mem_cons_of_mem _ List.mem_cons_self | exact List.mem_cons_of_mem _ (List.mem_cons_of_mem _ List.mem_cons_self) | exact List.mem_cons_of_mem _ (List.mem_cons_of_mem _ (List.mem_cons_of_mem _ List.mem_cons_self)))) | (apply Fr.setNew; (first | omega | (simp; omega)))))
        have FW : Fr [] w W7 := FW5.trans F57
        have R7 := K.out.row.fr F57 (by simp)
        clear hW e5 l5
        go_loopw [8] (fun s8 wr => ∃ i : Nat, i ≤ fs.length ∧ s8 = .int .i64 i ∧ Fr [] W7 wr) (fun s8 _ => fs.length - (intOf s8).toNat)
        case atStart => exact ⟨0, by omega, rfl, Fr.refl _ _⟩
        case round =>
          obtain ⟨i, hi, rfl, F1⟩ := hrel
          have c8 := (Blk.via F1 (by simp) C7).cell
          have e8 := (Blk.via F1 (by simp) E7).cell
          by_cases hlt : i < fs.length
          · have i0 : (0 : Int) ≤ (i : Int) := by omega
            have i1 : (i : Int) < (fs.length : Int) := by omega
            obtain ⟨f, hf⟩ : ∃ f, fs[i]? = some f := ⟨_, List.getElem?_eq_getElem hlt⟩
            have h3 := K.out.pr f (List.mem_of_getElem? hf)
            obtain ⟨g, c', e', _, hg, hcell⟩ := (R7.fr F1 (by simp)).at encF_ok.len (by omega)
            injection e' with e1 _ e2
            subst e1; subst e2
            have q1 := hcell i f hf 1 _ rfl
            have p1 := h3.1
            have p2 := h3.2.1
            have HBt : Hid (∀ W, Calls Try.prog 31 #[.int .i64 e.o.sd, .int .i64 f.pr, .int .i64 e.o.pr] W fun e w' => e = .returned (.bool false) ∧ W = w') := Lib.hid (fun W => by have := better_any W e.o.sd f.pr e.o.pr; rwa [h3.2.2 (by omega)] at this)
            clear hcell h3 hf
            go_wp2_with fail
            refine (HBt.out _).mono ?_
            rintro e w2 ⟨rfl, rfl⟩
            go_wp2_with fail
            go_roundw
            case rel => exact ⟨i + 1, by omega, by simp, F1⟩
            case measure => simp [intOf]; omega
          · obtain rfl : i = fs.length := by omega
            by_cases hq : 0 < o.qt
            · have h3 := K.out.rest hq
              rcases K.out.sd with hs | hs
              · have p1 := h3.1 hs
                have x0 : (e.o.sd == 0) = true := by rw [hs]; rfl
                have x1 : (e.o.sd == 1) = false := by rw [hs]; rfl
                clear h3 hs
                go_wp2_with fail
                refine (alive15_any _).mono ?_
                rintro e w2 ⟨rfl, hf⟩
                go_wp2_with fail
                go_ret
                exact ⟨rfl, ((FW.trans F1).trans hf).toBelow⟩
              · have p1 := h3.2 hs
                have x0 : (e.o.sd == 0) = false := by rw [hs]; rfl
                have x1 : (e.o.sd == 1) = true := by rw [hs]; rfl
                clear h3 hs
                go_wp2_with fail
                refine (alive15_any _).mono ?_
                rintro e w2 ⟨rfl, hf⟩
                go_wp2_with fail
                go_ret
                exact ⟨rfl, ((FW.trans F1).trans hf).toBelow⟩
            · go_wp2_with fail
              refine (alive15_any _).mono ?_
              rintro e w2 ⟨rfl, hf⟩
              go_wp2_with fail
              go_ret
              exact ⟨rfl, ((FW.trans F1).trans hf).toBelow⟩
      · have y2 : (e.ty == 2) = true := by rw [hty]; rfl
        have y3 : (e.ty == 3) = false := by rw [hty]; rfl
        have y4 : (e.ty == 4) = false := by rw [hty]; rfl
        have y5 : (e.ty == 5) = false := by rw [hty]; rfl
        have y22 : (e.ty != 2) = false := by rw [hty]; rfl
        have z1 : (o.qt != 0) = false := by rw [K.out.mkt (by omega)]; rfl
        go_wp2_with fail
        refine wp_name (fun W7 hW => ?_)
        have C7 : Blk W7 w5.heap.size 100 (resA 0 (.slice A fs.length c) o gone why) := Blk.box0 hW
        have E7 : Blk W7 w.heap.size 98 e.a := Blk.eqv hW (E5.alloc _)
        have F57 : Fr [] w5 W7 := Fr.eqv hW (by with_reducible repeat (first | exact Fr.refl _ _ | assumption | apply Fr.drew | apply Fr.drewN | apply Fr.alloc | (apply Fr.step; assumption; (intro _ h; (first | exact h | (focus (simp_all; done))))) | (apply Fr.setIn; (first | exact List.mem_cons_self | exact List.mem_cons_of_mem _ List.mem_cons_self | exact List.mem_cons_of_mem _ (List.mem_cons_of_mem _ List.mem_cons_self) | exact List.mem_cons_of_mem _ (List.mem_cons_of_mem _ (List.mem_cons_of_mem _ List.mem_cons_self)))) | (apply Fr.setNew; (first | omega | (simp; omega)))))
        have FW : Fr [] w W7 := FW5.trans F57
        have R7 := K.out.row.fr F57 (by simp)
        clear hW e5 l5
        go_loopw [8] (fun s8 wr => ∃ i : Nat, i ≤ fs.length ∧ s8 = .int .i64 i ∧ Fr [] W7 wr) (fun s8 _ => fs.length - (intOf s8).toNat)
        case atStart => exact ⟨0, by omega, rfl, Fr.refl _ _⟩
        case round =>
          obtain ⟨i, hi, rfl, F1⟩ := hrel
          have c8 := (Blk.via F1 (by simp) C7).cell
          have e8 := (Blk.via F1 (by simp) E7).cell
          by_cases hlt : i < fs.length
          · have i0 : (0 : Int) ≤ (i : Int) := by omega
            have i1 : (i : Int) < (fs.length : Int) := by omega
            obtain ⟨f, hf⟩ : ∃ f, fs[i]? = some f := ⟨_, List.getElem?_eq_getElem hlt⟩
            have h3 := K.out.pr f (List.mem_of_getElem? hf)
            obtain ⟨g, c', e', _, hg, hcell⟩ := (R7.fr F1 (by simp)).at encF_ok.len (by omega)
            injection e' with e1 _ e2
            subst e1; subst e2
            have q1 := hcell i f hf 1 _ rfl
            have p1 := h3.1
            have p2 := h3.2.1
            clear hcell h3 hf
            go_wp2_with fail
            go_roundw
            case rel => exact ⟨i + 1, by omega, by simp, F1⟩
            case measure => simp [intOf]; omega
          · obtain rfl : i = fs.length := by omega
            by_cases hq : 0 < o.qt
            · have h3 := K.out.rest hq
              rcases K.out.sd with hs | hs
              · have p1 := h3.1 hs
                have x0 : (e.o.sd == 0) = true := by rw [hs]; rfl
                have x1 : (e.o.sd == 1) = false := by rw [hs]; rfl
                clear h3 hs
                go_wp2_with fail
                refine (alive15_any _).mono ?_
                rintro e w2 ⟨rfl, hf⟩
                go_wp2_with fail
                go_ret
                exact ⟨rfl, ((FW.trans F1).trans hf).toBelow⟩
              · have p1 := h3.2 hs
                have x0 : (e.o.sd == 0) = false := by rw [hs]; rfl
                have x1 : (e.o.sd == 1) = true := by rw [hs]; rfl
                clear h3 hs
                go_wp2_with fail
                refine (alive15_any _).mono ?_
                rintro e w2 ⟨rfl, hf⟩
                go_wp2_with fail
                go_ret
                exact ⟨rfl, ((FW.trans F1).trans hf).toBelow⟩
            · go_wp2_with fail
              refine (alive15_any _).mono ?_
              rintro e w2 ⟨rfl, hf⟩
              go_wp2_with fail
              go_ret
              exact ⟨rfl, ((FW.trans F1).trans hf).toBelow⟩
      · have y2 : (e.ty == 2) = false := by rw [hty]; rfl
        have y3 : (e.ty == 3) = true := by rw [hty]; rfl
        have y4 : (e.ty == 4) = false := by rw [hty]; rfl
        have y5 : (e.ty == 5) = false := by rw [hty]; rfl
        have y22 : (e.ty != 2) = true := by rw [hty]; rfl
        have z1 : (o.qt != 0) = false := by rw [K.out.mkt (by omega)]; rfl
        go_wp2_with fail
        refine wp_name (fun W7 hW => ?_)
        have C7 : Blk W7 w5.heap.size 100 (resA 0 (.slice A fs.length c) o gone why) := Blk.box0 hW
        have E7 : Blk W7 w.heap.size 98 e.a := Blk.eqv hW (E5.alloc _)
        have F57 : Fr [] w5 W7 := Fr.eqv hW (by with_reducible repeat (first | exact Fr.refl _ _ | assumption | apply Fr.drew | apply Fr.drewN | apply Fr.alloc | (apply Fr.step; assumption; (intro _ h; (first | exact h | (focus (simp_all; done))))) | (apply Fr.setIn; (first | exact List.mem_cons_self | exact List.mem_cons_of_mem _ List.mem_cons_self | exact List.mem_cons_of_mem _ (List.mem_cons_of_mem _ List.mem_cons_self) | exact List.mem_cons_of_mem _ (List.mem_cons_of_mem _ (List.mem_cons_of_mem _ List.mem_cons_self)))) | (apply Fr.setNew; (first | omega | (simp; omega)))))
        have FW : Fr [] w W7 := FW5.trans F57
        have R7 := K.out.row.fr F57 (by simp)
        clear hW e5 l5
        go_loopw [8] (fun s8 wr => ∃ i : Nat, i ≤ fs.length ∧ s8 = .int .i64 i ∧ Fr [] W7 wr) (fun s8 _ => fs.length - (intOf s8).toNat)
        case atStart => exact ⟨0, by omega, rfl, Fr.refl _ _⟩
        case round =>
          obtain ⟨i, hi, rfl, F1⟩ := hrel
          have c8 := (Blk.via F1 (by simp) C7).cell
          have e8 := (Blk.via F1 (by simp) E7).cell
          by_cases hlt : i < fs.length
          · have i0 : (0 : Int) ≤ (i : Int) := by omega
            have i1 : (i : Int) < (fs.length : Int) := by omega
            obtain ⟨f, hf⟩ : ∃ f, fs[i]? = some f := ⟨_, List.getElem?_eq_getElem hlt⟩
            have h3 := K.out.pr f (List.mem_of_getElem? hf)
            obtain ⟨g, c', e', _, hg, hcell⟩ := (R7.fr F1 (by simp)).at encF_ok.len (by omega)
            injection e' with e1 _ e2
            subst e1; subst e2
            have q1 := hcell i f hf 1 _ rfl
            have p1 := h3.1
            have p2 := h3.2.1
            have HBt : Hid (∀ W, Calls Try.prog 31 #[.int .i64 e.o.sd, .int .i64 f.pr, .int .i64 e.o.pr] W fun e w' => e = .returned (.bool false) ∧ W = w') := Lib.hid (fun W => by have := better_any W e.o.sd f.pr e.o.pr; rwa [h3.2.2 (by omega)] at this)
            clear hcell h3 hf
            go_wp2_with fail
            refine (HBt.out _).mono ?_
            rintro e w2 ⟨rfl, rfl⟩
            go_wp2_with fail
            go_roundw
            case rel => exact ⟨i + 1, by omega, by simp, F1⟩
            case measure => simp [intOf]; omega
          · obtain rfl : i = fs.length := by omega
            by_cases hq : 0 < o.qt
            · have h3 := K.out.rest hq
              rcases K.out.sd with hs | hs
              · have p1 := h3.1 hs
                have x0 : (e.o.sd == 0) = true := by rw [hs]; rfl
                have x1 : (e.o.sd == 1) = false := by rw [hs]; rfl
                clear h3 hs
                go_wp2_with fail
                refine (alive15_any _).mono ?_
                rintro e w2 ⟨rfl, hf⟩
                go_wp2_with fail
                go_ret
                exact ⟨rfl, ((FW.trans F1).trans hf).toBelow⟩
              · have p1 := h3.2 hs
                have x0 : (e.o.sd == 0) = false := by rw [hs]; rfl
                have x1 : (e.o.sd == 1) = true := by rw [hs]; rfl
                clear h3 hs
                go_wp2_with fail
                refine (alive15_any _).mono ?_
                rintro e w2 ⟨rfl, hf⟩
                go_wp2_with fail
                go_ret
                exact ⟨rfl, ((FW.trans F1).trans hf).toBelow⟩
            · go_wp2_with fail
              refine (alive15_any _).mono ?_
              rintro e w2 ⟨rfl, hf⟩
              go_wp2_with fail
              go_ret
              exact ⟨rfl, ((FW.trans F1).trans hf).toBelow⟩
      · have y2 : (e.ty == 2) = false := by rw [hty]; rfl
        have y3 : (e.ty == 3) = false := by rw [hty]; rfl
        have y4 : (e.ty == 4) = true := by rw [hty]; rfl
        have y5 : (e.ty == 5) = false := by rw [hty]; rfl
        have y22 : (e.ty != 2) = true := by rw [hty]; rfl
        obtain ⟨rfl, z1, z2⟩ := K.out.all hty
        have z3 : (o.qt != 0) = false := by rw [z1]; rfl
        have z4 : (trS fs != e.o.qt) = false := by rw [z2]; simp
        clear z1 z2
        go_wp2_with fail
        refine wp_name (fun W7 hW => ?_)
        have C7 : Blk W7 w5.heap.size 100 (resA 0 (.slice A fs.length c) o 0 why) := Blk.box0 hW
        have E7 : Blk W7 w.heap.size 98 e.a := Blk.eqv hW (E5.alloc _)
        have F57 : Fr [] w5 W7 := Fr.eqv hW (by with_reducible repeat (first | exact Fr.refl _ _ | assumption | apply Fr.drew | apply Fr.drewN | apply Fr.alloc | (apply Fr.step; assumption; (intro _ h; (first | exact h | (focus (simp_all; done))))) | (apply Fr.setIn; (first | exact List.mem_cons_self | exact List.mem_cons_of_mem _ List.mem_cons_self | exact List.mem_cons_of_mem _ (List.mem_cons_of_mem _ List.mem_cons_self) | exact List.mem_cons_of_mem _ (List.mem_cons_of_mem _ (List.mem_cons_of_mem _ List.mem_cons_self)))) | (apply Fr.setNew; (first | omega | (simp; omega)))))
        have FW : Fr [] w W7 := FW5.trans F57
        have R7 := K.out.row.fr F57 (by simp)
        clear hW e5 l5
        have hT := Lib.hid (fun W (hf : Fr [] W7 W) => traded_any W (.slice A fs.length c) 0 0 fs (R7.fr hf (by simp)) K.out.q (by have := K.out.len; omega))
        refine qw_region (by kernel_rfl) (by kernel_rfl) ?_; (with_reducible apply qw_do; (kernel_rfl); (focus (intro W hC; (have q7 := (Blk.via hC (by simp) C7).cell; have q8 := (Blk.via hC (by simp) E7).cell); go_simp; (first | ((go_at_call 40; refine (hT.out _ hC).mono ?_; rintro e w2 ⟨rfl, hf⟩; exact ⟨rfl, hC.trans hf⟩)) | done | rfl | exact ⟨rfl, rfl⟩))); (try simp only [Act.put, List.getElem_toArray, List.getElem_cons_succ, List.getElem_cons_zero, List.setIfInBounds_toArray, List.set_cons_zero, List.set_cons_succ])); (with_reducible apply qw_do; (kernel_rfl); (focus (intro W hC; (have q7 := (Blk.via hC (by simp) C7).cell; have q8 := (Blk.via hC (by simp) E7).cell); go_simp; (first | ((go_at_call 40; refine (hT.out _ hC).mono ?_; rintro e w2 ⟨rfl, hf⟩; exact ⟨rfl, hC.trans hf⟩)) | done | rfl | exact ⟨rfl, rfl⟩))); (try simp only [Act.put, List.getElem_toArray, List.getElem_cons_succ, List.getElem_cons_zero, List.setIfInBounds_toArray, List.set_cons_zero, List.set_cons_succ])); (with_reducible apply qw_do; (kernel_rfl); (focus (intro W hC; (have q7 := (Blk.via hC (by simp) C7).cell; have q8 := (Blk.via hC (by simp) E7).cell); go_simp; (first | ((go_at_call 40; refine (hT.out _ hC).mono ?_; rintro e w2 ⟨rfl, hf⟩; exact ⟨rfl, hC.trans hf⟩)) | done | rfl | exact ⟨rfl, rfl⟩))); (try simp only [Act.put, List.getElem_toArray, List.getElem_cons_succ, List.getElem_cons_zero, List.setIfInBounds_toArray, List.set_cons_zero, List.set_cons_succ])); (with_reducible apply qw_do; (kernel_rfl); (focus (intro W hC; (have q7 := (Blk.via hC (by simp) C7).cell; have q8 := (Blk.via hC (by simp) E7).cell); go_simp; (first | ((go_at_call 40; refine (hT.out _ hC).mono ?_; rintro e w2 ⟨rfl, hf⟩; exact ⟨rfl, hC.trans hf⟩)) | done | rfl | exact ⟨rfl, rfl⟩))); (try simp only [Act.put, List.getElem_toArray, List.getElem_cons_succ, List.getElem_cons_zero, List.setIfInBounds_toArray, List.set_cons_zero, List.set_cons_succ])); (with_reducible apply qw_do; (kernel_rfl); (focus (intro W hC; (have q7 := (Blk.via hC (by simp) C7).cell; have q8 := (Blk.via hC (by simp) E7).cell); go_simp; (first | ((go_at_call 40; refine (hT.out _ hC).mono ?_; rintro e w2 ⟨rfl, hf⟩; exact ⟨rfl, hC.trans hf⟩)) | done | rfl | exact ⟨rfl, rfl⟩))); (try simp only [Act.put, List.getElem_toArray, List.getElem_cons_succ, List.getElem_cons_zero, List.setIfInBounds_toArray, List.set_cons_zero, List.set_cons_succ])); (with_reducible apply qw_do; (kernel_rfl); (focus (intro W hC; (have q7 := (Blk.via hC (by simp) C7).cell; have q8 := (Blk.via hC (by simp) E7).cell); go_simp; (first | ((go_at_call 40; refine (hT.out _ hC).mono ?_; rintro e w2 ⟨rfl, hf⟩; exact ⟨rfl, hC.trans hf⟩)) | done | rfl | exact ⟨rfl, rfl⟩))); (try simp only [Act.put, List.getElem_toArray, List.getElem_cons_succ, List.getElem_cons_zero, List.setIfInBounds_toArray, List.set_cons_zero, List.set_cons_succ])); (with_reducible apply qw_do; (kernel_rfl); (focus (intro W hC; (have q7 := (Blk.via hC (by simp) C7).cell; have q8 := (Blk.via hC (by simp) E7).cell); go_simp; (first | ((go_at_call 40; refine (hT.out _ hC).mono ?_; rintro e w2 ⟨rfl, hf⟩; exact ⟨rfl, hC.trans hf⟩)) | done | rfl | exact ⟨rfl, rfl⟩))); (try simp only [Act.put, List.getElem_toArray, List.getElem_cons_succ, List.getElem_cons_zero, List.setIfInBounds_toArray, List.set_cons_zero, List.set_cons_succ])); (with_reducible apply qw_do; (kernel_rfl); (focus (intro W hC; (have q7 := (Blk.via hC (by simp) C7).cell; have q8 := (Blk.via hC (by simp) E7).cell); go_simp; (first | ((go_at_call 40; refine (hT.out _ hC).mono ?_; rintro e w2 ⟨rfl, hf⟩; exact ⟨rfl, hC.trans hf⟩)) | done | rfl | exact ⟨rfl, rfl⟩))); (try simp only [Act.put, List.getElem_toArray, List.getElem_cons_succ, List.getElem_cons_zero, List.setIfInBounds_toArray, List.set_cons_zero, List.set_cons_succ])); (with_reducible apply qw_do; (kernel_rfl); (focus (intro W hC; (have q7 := (Blk.via hC (by simp) C7).cell; have q8 := (Blk.via hC (by simp) E7).cell); go_simp; (first | ((go_at_call 40; refine (hT.out _ hC).mono ?_; rintro e w2 ⟨rfl, hf⟩; exact ⟨rfl, hC.trans hf⟩)) | done | rfl | exact ⟨rfl, rfl⟩))); (try simp only [Act.put, List.getElem_toArray, List.getElem_cons_succ, List.getElem_cons_zero, List.setIfInBounds_toArray, List.set_cons_zero, List.set_cons_succ])); (with_reducible apply qw_do; (kernel_rfl); (focus (intro W hC; (have q7 := (Blk.via hC (by simp) C7).cell; have q8 := (Blk.via hC (by simp) E7).cell); go_simp; (first | ((go_at_call 40; refine (hT.out _ hC).mono ?_; rintro e w2 ⟨rfl, hf⟩; exact ⟨rfl, hC.trans hf⟩)) | done | rfl | exact ⟨rfl, rfl⟩))); (try simp only [Act.put, List.getElem_toArray, List.getElem_cons_succ, List.getElem_cons_zero, List.setIfInBounds_toArray, List.set_cons_zero, List.set_cons_succ])); (with_reducible apply qw_do; (kernel_rfl); (focus (intro W hC; (have q7 := (Blk.via hC (by simp) C7).cell; have q8 := (Blk.via hC (by simp) E7).cell); go_simp; (first | ((go_at_call 40; refine (hT.out _ hC).mono ?_; rintro e w2 ⟨rfl, hf⟩; exact ⟨rfl, hC.trans hf⟩)) | done | rfl | exact ⟨rfl, rfl⟩))); (try simp only [Act.put, List.getElem_toArray, List.getElem_cons_succ, List.getElem_cons_zero, List.setIfInBounds_toArray, List.set_cons_zero, List.set_cons_succ])); (with_reducible apply qw_do; (kernel_rfl); (focus (intro W hC; (have q7 := (Blk.via hC (by simp) C7).cell; have q8 := (Blk.via hC (by simp) E7).cell); go_simp; (first | ((go_at_call 40; refine (hT.out _ hC).mono ?_; rintro e w2 ⟨rfl, hf⟩; exact ⟨rfl, hC.trans hf⟩)) | done | rfl | exact ⟨rfl, rfl⟩))); (try simp only [Act.put, List.getElem_toArray, List.getElem_cons_succ, List.getElem_cons_zero, List.setIfInBounds_toArray, List.set_cons_zero, List.set_cons_succ])); (with_reducible apply qw_do; (kernel_rfl); (focus (intro W hC; (have q7 := (Blk.via hC (by simp) C7).cell; have q8 := (Blk.via hC (by simp) E7).cell); go_simp; (first | ((go_at_call 40; refine (hT.out _ hC).mono ?_; rintro e w2 ⟨rfl, hf⟩; exact ⟨rfl, hC.trans hf⟩)) | done | rfl | exact ⟨rfl, rfl⟩))); (try simp only [Act.put, List.getElem_toArray, List.getElem_cons_succ, List.getElem_cons_zero, List.setIfInBounds_toArray, List.set_cons_zero, List.set_cons_succ])); (with_reducible apply qw_do; (kernel_rfl); (focus (intro W hC; (have q7 := (Blk.via hC (by simp) C7).cell; have q8 := (Blk.via hC (by simp) E7).cell); go_simp; (first | ((go_at_call 40; refine (hT.out _ hC).mono ?_; rintro e w2 ⟨rfl, hf⟩; exact ⟨rfl, hC.trans hf⟩)) | done | rfl | exact ⟨rfl, rfl⟩))); (try simp only [Act.put, List.getElem_toArray, List.getElem_cons_succ, List.getElem_cons_zero, List.setIfInBounds_toArray, List.set_cons_zero, List.set_cons_succ])); (with_reducible apply qw_do; (kernel_rfl); (focus (intro W hC; (have q7 := (Blk.via hC (by simp) C7).cell; have q8 := (Blk.via hC (by simp) E7).cell); go_simp; (first | ((go_at_call 40; refine (hT.out _ hC).mono ?_; rintro e w2 ⟨rfl, hf⟩; exact ⟨rfl, hC.trans hf⟩)) | done | rfl | exact ⟨rfl, rfl⟩))); (try simp only [Act.put, List.getElem_toArray, List.getElem_cons_succ, List.getElem_cons_zero, List.setIfInBounds_toArray, List.set_cons_zero, List.set_cons_succ])); (with_reducible apply qw_do; (kernel_rfl); (focus (intro W hC; (have q7 := (Blk.via hC (by simp) C7).cell; have q8 := (Blk.via hC (by simp) E7).cell); go_simp; (first | ((go_at_call 40; refine (hT.out _ hC).mono ?_; rintro e w2 ⟨rfl, hf⟩; exact ⟨rfl, hC.trans hf⟩)) | done | rfl | exact ⟨rfl, rfl⟩))); (try simp only [Act.put, List.getElem_toArray, List.getElem_cons_succ, List.getElem_cons_zero, List.setIfInBounds_toArray, List.set_cons_zero, List.set_cons_succ])); (with_reducible apply qw_do; (kernel_rfl); (focus (intro W hC; (have q7 := (Blk.via hC (by simp) C7).cell; have q8 := (Blk.via hC (by simp) E7).cell); go_simp; (first | ((go_at_call 40; refine (hT.out _ hC).mono ?_; rintro e w2 ⟨rfl, hf⟩; exact ⟨rfl, hC.trans hf⟩)) | done | rfl | exact ⟨rfl, rfl⟩))); (try simp only [Act.put, List.getElem_toArray, List.getElem_cons_succ, List.getElem_cons_zero, List.setIfInBounds_toArray, List.set_cons_zero, List.set_cons_succ])); (with_reducible apply qw_do; (kernel_rfl); (focus (intro W hC; (have q7 := (Blk.via hC (by simp) C7).cell; have q8 := (Blk.via hC (by simp) E7).cell); go_simp; (first | ((go_at_call 40; refine (hT.out _ hC).mono ?_; rintro e w2 ⟨rfl, hf⟩; exact ⟨rfl, hC.trans hf⟩)) | done | rfl | exact ⟨rfl, rfl⟩))); (try simp only [Act.put, List.getElem_toArray, List.getElem_cons_succ, List.getElem_cons_zero, List.setIfInBounds_toArray, List.set_cons_zero, List.set_cons_succ])); (with_reducible apply qw_do; (kernel_rfl); (focus (intro W hC; (have q7 := (Blk.via hC (by simp) C7).cell; have q8 := (Blk.via hC (by simp) E7).cell); go_simp; (first | ((go_at_call 40; refine (hT.out _ hC).mono ?_; rintro e w2 ⟨rfl, hf⟩; exact ⟨rfl, hC.trans hf⟩)) | done | rfl | exact ⟨rfl, rfl⟩))); (try simp only [Act.put, List.getElem_toArray, List.getElem_cons_succ, List.getElem_cons_zero, List.setIfInBounds_toArray, List.set_cons_zero, List.set_cons_succ])); with_reducible refine qw_nil ?_
        intro W8 F8
        replace C7 := Blk.via F8 (by simp) C7
        replace E7 := Blk.via F8 (by simp) E7
        replace FW := FW.trans F8
        replace R7 := R7.fr F8 (by simp)
        clear hT F57 F8
        go_wp2_with fail
        go_loopw [8] (fun s8 wr => ∃ i : Nat, i ≤ fs.length ∧ s8 = .int .i64 i ∧ Fr [] W8 wr) (fun s8 _ => fs.length - (intOf s8).toNat)
        case atStart => exact ⟨0, by omega, rfl, Fr.refl _ _⟩
        case round =>
          obtain ⟨i, hi, rfl, F1⟩ := hrel
          have c8 := (Blk.via F1 (by simp) C7).cell
          have e8 := (Blk.via F1 (by simp) E7).cell
          by_cases hlt : i < fs.length
          · have i0 : (0 : Int) ≤ (i : Int) := by omega
            have i1 : (i : Int) < (fs.length : Int) := by omega
            obtain ⟨f, hf⟩ : ∃ f, fs[i]? = some f := ⟨_, List.getElem?_eq_getElem hlt⟩
            have h3 := K.out.pr f (List.mem_of_getElem? hf)
            obtain ⟨g, c', e', _, hg, hcell⟩ := (R7.fr F1 (by simp)).at encF_ok.len (by omega)
            injection e' with e1 _ e2
            subst e1; subst e2
            have q1 := hcell i f hf 1 _ rfl
            have p1 := h3.1
            have p2 := h3.2.1
            have HBt : Hid (∀ W, Calls Try.prog 31 #[.int .i64 e.o.sd, .int .i64 f.pr, .int .i64 e.o.pr] W fun e w' => e = .returned (.bool false) ∧ W = w') := Lib.hid (fun W => by have := better_any W e.o.sd f.pr e.o.pr; rwa [h3.2.2 (by omega)] at this)
            clear hcell h3 hf
            go_wp2_with fail
            refine (HBt.out _).mono ?_
            rintro e w2 ⟨rfl, rfl⟩
            go_wp2_with fail
            go_roundw
            case rel => exact ⟨i + 1, by omega, by simp, F1⟩
            case measure => simp [intOf]; omega
          · obtain rfl : i = fs.length := by omega
            by_cases hq : 0 < o.qt
            · have h3 := K.out.rest hq
              rcases K.out.sd with hs | hs
              · have p1 := h3.1 hs
                have x0 : (e.o.sd == 0) = true := by rw [hs]; rfl
                have x1 : (e.o.sd == 1) = false := by rw [hs]; rfl
                clear h3 hs
                go_wp2_with fail
                refine (alive15_any _).mono ?_
                rintro e w2 ⟨rfl, hf⟩
                go_wp2_with fail
                go_ret
                exact ⟨rfl, ((FW.trans F1).trans hf).toBelow⟩
              · have p1 := h3.2 hs
                have x0 : (e.o.sd == 0) = false := by rw [hs]; rfl
                have x1 : (e.o.sd == 1) = true := by rw [hs]; rfl
                clear h3 hs
                go_wp2_with fail
                refine (alive15_any _).mono ?_
                rintro e w2 ⟨rfl, hf⟩
                go_wp2_with fail
                go_ret
                exact ⟨rfl, ((FW.trans F1).trans hf).toBelow⟩
            · go_wp2_with fail
              refine (alive15_any _).mono ?_
              rintro e w2 ⟨rfl, hf⟩
              go_wp2_with fail
              go_ret
              exact ⟨rfl, ((FW.trans F1).trans hf).toBelow⟩
      · have y2 : (e.ty == 2) = false := by rw [hty]; rfl
        have y3 : (e.ty == 3) = false := by rw [hty]; rfl
        have y4 : (e.ty == 4) = false := by rw [hty]; rfl
        have y5 : (e.ty == 5) = true := by rw [hty]; rfl
        have y22 : (e.ty != 2) = true := by rw [hty]; rfl
        obtain rfl := K.out.post hty
        go_wp2_with fail
        refine wp_name (fun W7 hW => ?_)
        have C7 : Blk W7 w5.heap.size 100 (resA 0 (.slice A 0 c) o gone why) := Blk.box0 hW
        have E7 : Blk W7 w.heap.size 98 e.a := Blk.eqv hW (E5.alloc _)
        have F57 : Fr [] w5 W7 := Fr.eqv hW (by with_reducible repeat (first | exact Fr.refl _ _ | assumption | apply Fr.drew | apply Fr.drewN | apply Fr.alloc | (apply Fr.step; assumption; (intro _ h; (first | exact h | (focus (simp_all; done))))) | (apply Fr.setIn; (first | exact List.mem_cons_self | exact List.mem_cons_of_mem _ List.mem_cons_self | exact List.mem_cons_of_mem _ (List.mem_cons_of_mem _ List.mem_cons_self) | exact List.mem_cons_of_mem _ (List.mem_cons_of_mem _ (List.mem_cons_of_mem _ List.mem_cons_self)))) | (apply Fr.setNew; (first | omega | (simp; omega)))))
        have FW : Fr [] w W7 := FW5.trans F57
        have R7 := K.out.row.fr F57 (by simp)
        clear hW e5 l5
        go_loopw [8] (fun s8 wr => s8 = .int .i64 0 ∧ Fr [] W7 wr) (fun _ _ => 0)
        case atStart => exact ⟨rfl, Fr.refl _ _⟩
        case round =>
          obtain ⟨rfl, F1⟩ := hrel
          have c8 := (Blk.via F1 (by simp) C7).cell
          have e8 := (Blk.via F1 (by simp) E7).cell
          by_cases hq : 0 < o.qt
          · have h3 := K.out.rest hq
            rcases K.out.sd with hs | hs
            · have p1 := h3.1 hs
              have x0 : (e.o.sd == 0) = true := by rw [hs]; rfl
              have x1 : (e.o.sd == 1) = false := by rw [hs]; rfl
              clear h3 hs
              go_wp2_with fail
              refine (alive15_any _).mono ?_
              rintro e w2 ⟨rfl, hf⟩
              go_wp2_with fail
              go_ret
              exact ⟨rfl, ((FW.trans F1).trans hf).toBelow⟩
            · have p1 := h3.2 hs
              have x0 : (e.o.sd == 0) = false := by rw [hs]; rfl
              have x1 : (e.o.sd == 1) = true := by rw [hs]; rfl
              clear h3 hs
              go_wp2_with fail
              refine (alive15_any _).mono ?_
              rintro e w2 ⟨rfl, hf⟩
              go_wp2_with fail
              go_ret
              exact ⟨rfl, ((FW.trans F1).trans hf).toBelow⟩
          · go_wp2_with fail
            refine (alive15_any _).mono ?_
            rintro e w2 ⟨rfl, hf⟩
            go_wp2_with fail
            go_ret
            exact ⟨rfl, ((FW.trans F1).trans hf).toBelow⟩
set_option linter.unusedVariables false in
theorem matchTypes_walk (w : World) (A0 : Option Addr) (n0 c0 : Nat) (F0 : Nat → Nat → Int) (a1_0 : Int) (a1_1 : Int) (a1_2 : Int) (a1_3 : Int) (a1_4 : Int) (a1_5 : Int) (a1_6 : Int) (a1_7 : Int) (a1_8 : Int) (a1_9 : Int) (a1_10 : Int) (w0 : IntRow w A0 n0 7 F0) (m0 : n0 ≤ maxLen) (b1_0 : -9223372036854775808 ≤ a1_0 ∧ a1_0 ≤ 9223372036854775807) (b1_1 : -9223372036854775808 ≤ a1_1 ∧ a1_1 ≤ 9223372036854775807) (b1_2 : -9223372036854775808 ≤ a1_2 ∧ a1_2 ≤ 9223372036854775807) (b1_3 : -9223372036854775808 ≤ a1_3 ∧ a1_3 ≤ 9223372036854775807) (b1_4 : -9223372036854775808 ≤ a1_4 ∧ a1_4 ≤ 9223372036854775807) (b1_5 : -9223372036854775808 ≤ a1_5 ∧ a1_5 ≤ 9223372036854775807) (b1_6 : -9223372036854775808 ≤ a1_6 ∧ a1_6 ≤ 9223372036854775807) (b1_7 : -9223372036854775808 ≤ a1_7 ∧ a1_7 ≤ 9223372036854775807) (b1_8 : -9223372036854775808 ≤ a1_8 ∧ a1_8 ≤ 9223372036854775807) (b1_9 : -9223372036854775808 ≤ a1_9 ∧ a1_9 ≤ 9223372036854775807) (b1_10 : -9223372036854775808 ≤ a1_10 ∧ a1_10 ≤ 9223372036854775807) :
    Calls Try.prog 10 #[.slice A0 n0 c0, .agg #[.int .i64 a1_0, .int .i64 a1_1, .int .i64 a1_2, .int .i64 a1_3, .int .i64 a1_4, .int .i64 a1_5, .int .i64 a1_6, .int .i64 a1_7, .int .i64 a1_8, .int .i64 a1_9, .int .i64 a1_10]] w fun e w' => e = .returned (.bool true) ∧ Below w.heap.size w w' := by
  exact matchTypes_core w A0 n0 c0 F0 w0 m0 ⟨⟨a1_0, a1_1, a1_2, a1_3, a1_4, a1_5, a1_6⟩, a1_7, a1_8, a1_9, a1_10⟩ b1_3
end Go.Proofs.Ytkimldeagndgjaa

/- The row of the law MatchTypes: for every input the law returns true, and each argument reads behind the call as it read before. Out of the walk matchTypes_walk. -/
namespace Go.Proofs.Ytkimldeagndgjaa.matchTypes
set_option linter.unusedVariables false
set_option linter.unusedSimpArgs false
open Go.ChangeShapes Go.WideShapes Go.ChangeAt Go.RowKit
set_option linter.unusedVariables false
theorem own : ownKnob Try.prog.godebug = none := by kernel_rfl
theorem laidOut : laidOutB Try.prog = true := by kernel_rfl
set_option maxRecDepth 100000 in
theorem lifted (os : Os) (started : os.Started) (H : Type) (enc : TypeId × Value → H) :
    ReturnsInHanded {} Try.checked os 10 .any (Rows.matchTypesSpec.pre6 enc Try.prog Try.f10 Rows.matchTypesRow.domain false) (Rows.matchTypesSpec.post enc Try.prog Try.f10 false true false false) := by
  refine returnsInHanded_of_change_sized (C := Try.checked) own started (by kernel_rfl) Try.func10
    (ChangeSpec.witness6 (enc := enc) (C := Try.checked) false ⟨#[], #[.slice none 0 0, .agg #[.int .i64 0, .int .i64 0, .int .i64 0, .int .i64 0, .int .i64 0, .int .i64 0, .int .i64 0, .int .i64 0, .int .i64 0, .int .i64 0, .int .i64 0]], []⟩ 8 (by kernel_rfl) (by kernel_rfl) (by kernel_rfl) (by kernel_rfl)) ?_
  intro W base args ds gs before hval0 hW hcnd hsz0 _
  have hval : ∀ (j : Nat) t v, Try.f10.params[j]? = some t → args[j]? = some v → Value.okWide Try.prog W .any base t v := hval0
  have hW' := hW
  obtain ⟨p, q, hA0, hV, rfl, hfz, hnd⟩ := hW
  have hA : DataW.TrodAll enc Try.prog W 0 (fun _ => true) true Try.f10.params.toList args.toList ds p := hA0
  rw [Try.params10] at hA hval
  obtain ⟨v0, vs0, d0, ds0, p0, q0, hargs, rfl, rfl, h0, r0⟩ := trodAll_cons hA
  obtain ⟨v1, vs1, d1, ds1, p1, q1, rfl, rfl, rfl, h1, r1⟩ := trodAll_cons r0
  obtain ⟨rfl, rfl, rfl⟩ := trodAll_nil r1
  obtain rfl : args = #[v0, v1] := by cases args; simp_all
  obtain ⟨rfl, rfl⟩ := trodVars_none hV
  have k0 := h0
  have lt0 : ∀ x ∈ p0, x.block < W.heap.size := by obtain ⟨m, hm⟩ := k0; exact DataW.trod_lt m _ _ _ hm
  obtain ⟨A0, n0, c0, rfl⟩ := okWide_slice Try.underlying22 (hval 0 22 v0 rfl rfl)
  obtain ⟨F0, w0, m0⟩ := open_rows (m := 7) Try.underlying22 (by kernel_rfl) (by decide) (by kernel_rfl) h0
  have k1 := h1
  have lt1 : ∀ x ∈ p1, x.block < W.heap.size := by obtain ⟨m, hm⟩ := k1; exact DataW.trod_lt m _ _ _ hm
  obtain ⟨c1, rfl, L1_0⟩ := open_leaves Try.underlying98 (ks := [true, true, true, true, true, true, true, true, true, true, true]) (by kernel_rfl) (hval 1 98 v1 rfl rfl) h1
  obtain ⟨a1_0, c1, rfl, b1_0, L1_1⟩ := Leafs.int_inv L1_0
  obtain ⟨a1_1, c1, rfl, b1_1, L1_2⟩ := Leafs.int_inv L1_1
  obtain ⟨a1_2, c1, rfl, b1_2, L1_3⟩ := Leafs.int_inv L1_2
  obtain ⟨a1_3, c1, rfl, b1_3, L1_4⟩ := Leafs.int_inv L1_3
  obtain ⟨a1_4, c1, rfl, b1_4, L1_5⟩ := Leafs.int_inv L1_4
  obtain ⟨a1_5, c1, rfl, b1_5, L1_6⟩ := Leafs.int_inv L1_5
  obtain ⟨a1_6, c1, rfl, b1_6, L1_7⟩ := Leafs.int_inv L1_6
  obtain ⟨a1_7, c1, rfl, b1_7, L1_8⟩ := Leafs.int_inv L1_7
  obtain ⟨a1_8, c1, rfl, b1_8, L1_9⟩ := Leafs.int_inv L1_8
  obtain ⟨a1_9, c1, rfl, b1_9, L1_10⟩ := Leafs.int_inv L1_9
  obtain ⟨a1_10, c1, rfl, b1_10, L1_11⟩ := Leafs.int_inv L1_10
  obtain rfl := Leafs.nil_inv L1_11
  clear hA0 hval0 hsz0
  refine (matchTypes_walk W A0 n0 c0 F0 a1_0 a1_1 a1_2 a1_3 a1_4 a1_5 a1_6 a1_7 a1_8 a1_9 a1_10 w0 m0 b1_0 b1_1 b1_2 b1_3 b1_4 b1_5 b1_6 b1_7 b1_8 b1_9 b1_10).mono fun e W' ⟨he, bel⟩ => ?_
  subst he
  exact ⟨_, rfl, _, _, _, [], _, [], hW', trodAll_mk1 (shut_bool Try.underlying4 _), (trodAll_cons_mk (Below.trod laidOut (by kernel_rfl) (of_decide_eq_true (by kernel_rfl)) k0 bel lt0) (trodAll_cons_mk (Below.trod laidOut (by kernel_rfl) (of_decide_eq_true (by kernel_rfl)) k1 bel lt1) trodAll_mk0)), rfl, bel.frame _, fun h => by cases h⟩
theorem over : Rows.matchTypesRow.holds Try.pinned (OpenSpec.ofChange Rows.matchTypesSpec) :=
  OpenClaim.holds_of_wide 10 Try.f10 rfl rfl rfl rfl rfl rfl rfl ⟨rfl, rfl, rfl, rfl, rfl⟩ rfl rfl rfl rfl rfl (by kernel_rfl) Try.func10 (by kernel_rfl)
    (of_decide_eq_true (by kernel_rfl)) (by unfold Func.isWrapper; first | (rw [if_pos (by decide +kernel)]; kernel_rfl) | (rw [if_neg (by decide +kernel)]; exact ⟨rfl, rfl⟩))
    (fun os started H enc _ => lifted os started H enc)
theorem proved : Rows.MatchTypesSaid := over
#print axioms proved
end Go.Proofs.Ytkimldeagndgjaa.matchTypes
namespace Go.Proofs.Ytkimldeagndgjaa
theorem matchTypes_holds : Rows.MatchTypesSaid := matchTypes.proved
end Go.Proofs.Ytkimldeagndgjaa
