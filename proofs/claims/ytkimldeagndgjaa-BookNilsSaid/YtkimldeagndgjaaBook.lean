/- A book in memory; whether there is room, walked. -/
import Derived.Test.YtkimldeagndgjaaSideE
import Derived.Test.YtkimldeagndgjaaArE
import Derived.Test.YtkimldeagndgjaaIdxC
import Derived.Outline
namespace Go.Proofs.Ytkimldeagndgjaa
set_option linter.unusedVariables false
set_option linter.unusedSimpArgs false
open Go.RowKit

def sideD (lp : Nat) (v : Value) (bq bn be : Nat) : List Nat := lp :: bq :: bn :: be :: v.ownBlock.toList
/-- A book in memory, all its blocks named; T the slots in the order of time, ord their orders. -/
structure BookR (w : World) (b ba bi bs bm l0 q0 n0 e0 l1 q1 n1 e1 : Nat) (v0 v1 : Value) (N K : Nat) (fl : List Nat) (m : Nat → Option Ord) (ix : Int → Option Nat) (T : List Nat) (ord : Nat → Ord) : Prop where
  blk : Blk w b 139 #[.pointer (some ⟨ba, 0, none⟩), .pointer (some ⟨l0, 0, none⟩), .pointer (some ⟨q0, 0, none⟩), .pointer (some ⟨l1, 0, none⟩), .pointer (some ⟨q1, 0, none⟩), .pointer (some ⟨bi, 0, none⟩)]
  a : ArI w ba N fl m
  x : IxI w bi bs bm ix T.length
  s0 : SideI w 0 l0 v0 q0 n0 e0 N K T ord
  s1 : SideI w 1 l1 v1 q1 n1 e1 N K T ord
  t : Times N T ord
  mt : ∀ i, i ∈ T → m i = some (ord i)
  mn : ∀ i, i ∉ T → m i = none
  ids : ∀ id s, ix id = some s ↔ s ∈ T ∧ (ord s).id = id
  len : T.length + fl.length = N
  K1 : 1 ≤ K
  K2 : K ≤ 200
  nd : ([b, ba, bi, bs, bm] ++ (sideD l0 v0 q0 n0 e0 ++ sideD l1 v1 q1 n1 e1)).Nodup
  lt : ∀ x ∈ [b, ba, bi, bs, bm] ++ (sideD l0 v0 q0 n0 e0 ++ sideD l1 v1 q1 n1 e1), x < w.heap.size
/-- A book in memory, with the orders L in the order of time; D its blocks. -/
def BookI (w : World) (b : Nat) (D : List Nat) (N K : Nat) (L : List Ord) : Prop :=
  ∃ ba bi bs bm l0 q0 n0 e0 l1 q1 n1 e1 v0 v1 fl m ix T ord, BookR w b ba bi bs bm l0 q0 n0 e0 l1 q1 n1 e1 v0 v1 N K fl m ix T ord ∧ D = [b, ba, bi, bs, bm] ++ (sideD l0 v0 q0 n0 e0 ++ sideD l1 v1 q1 n1 e1) ∧ L = T.map ord

section
variable {w : World} {b ba bi bs bm l0 q0 n0 e0 l1 q1 n1 e1 : Nat} {v0 v1 : Value} {N K : Nat} {fl : List Nat} {m : Nat → Option Ord} {ix : Int → Option Nat} {T : List Nat} {ord : Nat → Ord}
theorem BookR.fr (h : BookR w b ba bi bs bm l0 q0 n0 e0 l1 q1 n1 e1 v0 v1 N K fl m ix T ord) {S : List Nat} {W : World} (hf : Fr S w W) (hS : ∀ x ∈ [b, ba, bi, bs, bm] ++ (sideD l0 v0 q0 n0 e0 ++ sideD l1 v1 q1 n1 e1), x ∉ S) :
    BookR W b ba bi bs bm l0 q0 n0 e0 l1 q1 n1 e1 v0 v1 N K fl m ix T ord := by
  refine ⟨Blk.via hf (hS b (by simp)) h.blk, h.a.fr hf (hS ba (by simp)), h.x.fr hf (hS bi (by simp)) (hS bs (by simp)) (hS bm (by simp)), ?_, ?_, h.t, h.mt, h.mn, h.ids, h.len, h.K1, h.K2, h.nd, fun x hx => Nat.lt_of_lt_of_le (h.lt x hx) hf.size⟩
  · exact h.s0.fr hf (hS l0 (by simp [sideD])) (fun g hg => hS g (by simp [sideD, hg])) (hS q0 (by simp [sideD])) (hS n0 (by simp [sideD])) (hS e0 (by simp [sideD]))
  · exact h.s1.fr hf (hS l1 (by simp [sideD])) (fun g hg => hS g (by simp [sideD, hg])) (hS q1 (by simp [sideD])) (hS n1 (by simp [sideD])) (hS e1 (by simp [sideD]))
end
theorem BookI.fr {w W : World} {b N K : Nat} {D S : List Nat} {L : List Ord} (h : BookI w b D N K L) (hf : Fr S w W) (hS : ∀ x ∈ D, x ∉ S) : BookI W b D N K L := by
  obtain ⟨ba, bi, bs, bm, l0, q0, n0, e0, l1, q1, n1, e1, v0, v1, fl, m, ix, T, ord, hr, rfl, rfl⟩ := h
  exact ⟨ba, bi, bs, bm, l0, q0, n0, e0, l1, q1, n1, e1, v0, v1, fl, m, ix, T, ord, hr.fr hf hS, rfl, rfl⟩

theorem of_side0 (w : World) (b : Nat) : Calls Try.prog 83 #[.pointer (some ⟨b, 0, none⟩), .int .i64 0] w fun e w' => e = .returned (.pointer (some ⟨b, 1, none⟩)) ∧ w = w' := by
  go_enter Try.func83, Try.ntmps83
  go_wp2_with fail
  go_ret
  exact ⟨rfl, rfl⟩
theorem of_side1 (w : World) (b : Nat) : Calls Try.prog 83 #[.pointer (some ⟨b, 0, none⟩), .int .i64 1] w fun e w' => e = .returned (.pointer (some ⟨b, 3, none⟩)) ∧ w = w' := by
  go_enter Try.func83, Try.ntmps83
  go_wp2_with fail
  go_ret
  exact ⟨rfl, rfl⟩
theorem of_side_no (w : World) (b : Nat) (n : Int) (h0 : n ≠ 0) (h1 : n ≠ 1) : Calls Try.prog 83 #[.pointer (some ⟨b, 0, none⟩), .int .i64 n] w fun e w' => e = .returned (.pointer none) ∧ w = w' := by
  have a0 : (n != 0) = true := by simpa using h0
  have a1 : (n != 1) = true := by simpa using h1
  go_enter Try.func83, Try.ntmps83
  go_wp2_with fail
  go_ret
  exact ⟨rfl, rfl⟩
theorem of_side_nil (w : World) (n : Int) : Calls Try.prog 83 #[.pointer none, .int .i64 n] w fun e w' => e = .returned (.pointer none) ∧ w = w' := by
  go_enter Try.func83, Try.ntmps83
  go_wp2_with fail
  go_ret
  exact ⟨rfl, rfl⟩
theorem key_book (w : World) (id : Int) : Calls Try.prog 85 #[.int .i64 id] w fun e w' => e = .returned (.agg #[.int .i64 0, .int .i64 id]) ∧ Fr [] w w' := by
  go_enter Try.func85, Try.ntmps85
  go_wp2_with fail
  exact bodyPost_ret (v := .agg #[.int .i64 0, .int .i64 id]) (by simp [results, Try.results85, go_sem]) rfl ⟨rfl, by with_reducible repeat (first | exact Fr.refl _ _ | assumption | apply Fr.drew | apply Fr.drewN | apply Fr.alloc | (apply Fr.step; assumption; (intro _ h; (first | exact h | (focus (simp_all; done))))) | (apply Fr.setIn; (first | exact List.mem_cons_self | exact List.mem_cons_of_mem _ List.mem_cons_self | exact List.mem_cons_of_mem _ (List.mem_cons_of_mem _ List.mem_cons_self) | exact List.mem_cons_of_mem _ (List.mem_cons_of_mem _ (List.mem_cons_of_mem _ List.mem_cons_self)))) | (apply Fr.setNew; (first | omega | (simp; omega))))⟩

section
variable (w : World) (b ba bi bs bm l0 q0 n0 e0 l1 q1 n1 e1 : Nat) (v0 v1 : Value) (N K : Nat) (fl : List Nat) (m : Nat → Option Ord) (ix : Int → Option Nat) (T : List Nat) (ord : Nat → Ord)
theorem bkFits0 (h : BookR w b ba bi bs bm l0 q0 n0 e0 l1 q1 n1 e1 v0 v1 N K fl m ix T ord) (p : Int) (hp : In63 p) (r : Bool) (hr : r = true ↔ FitsL 0 p (T.map ord) K) :
    Calls Try.prog 47 #[.pointer (some ⟨b, 0, none⟩), .int .i64 0, .int .i64 p] w fun e w' => e = .returned (.bool r) ∧ Fr [] w w' := by
  have c1 := h.blk.cell 1
  go_enter Try.func47, Try.ntmps47
  go_wp2_with fail
  refine (of_side0 w b).mono ?_
  rintro e w1 ⟨rfl, rfl⟩
  go_wp2_with fail
  refine (side_fits w 0 l0 v0 q0 n0 e0 N K T ord h.s0 p hp r hr).mono ?_
  rintro e w1 ⟨rfl, F⟩
  go_wp2_with fail
  go_ret
  exact ⟨rfl, F⟩
theorem bkFits1 (h : BookR w b ba bi bs bm l0 q0 n0 e0 l1 q1 n1 e1 v0 v1 N K fl m ix T ord) (p : Int) (hp : In63 p) (r : Bool) (hr : r = true ↔ FitsL 1 p (T.map ord) K) :
    Calls Try.prog 47 #[.pointer (some ⟨b, 0, none⟩), .int .i64 1, .int .i64 p] w fun e w' => e = .returned (.bool r) ∧ Fr [] w w' := by
  have c1 := h.blk.cell 3
  go_enter Try.func47, Try.ntmps47
  go_wp2_with fail
  refine (of_side1 w b).mono ?_
  rintro e w1 ⟨rfl, rfl⟩
  go_wp2_with fail
  refine (side_fits w 1 l1 v1 q1 n1 e1 N K T ord h.s1 p hp r hr).mono ?_
  rintro e w1 ⟨rfl, F⟩
  go_wp2_with fail
  go_ret
  exact ⟨rfl, F⟩
theorem bkRoom (h : BookR w b ba bi bs bm l0 q0 n0 e0 l1 q1 n1 e1 v0 v1 N K fl m ix T ord) (s : Int) (hs : s = 0 ∨ s = 1) (p : Int) (hp : In63 p) (r : Bool) (hr : r = true ↔ (FitsL s p (T.map ord) K ∧ T.length < N)) :
    Calls Try.prog 46 #[.pointer (some ⟨b, 0, none⟩), .int .i64 s, .int .i64 p] w fun e w' => e = .returned (.bool r) ∧ Fr [] w w' := by
  obtain ⟨fb, hfb⟩ : ∃ fb : Bool, fb = true ↔ FitsL s p (T.map ord) K := by
    by_cases c : FitsL s p (T.map ord) K
    · exact ⟨true, by simp [c]⟩
    · exact ⟨false, by simp [c]⟩
  have HF : Hid (Calls Try.prog 47 #[.pointer (some ⟨b, 0, none⟩), .int .i64 s, .int .i64 p] w fun e w' => e = .returned (.bool fb) ∧ Fr [] w w') := by
    rcases hs with rfl | rfl
    · exact Lib.hid (bkFits0 w b ba bi bs bm l0 q0 n0 e0 l1 q1 n1 e1 v0 v1 N K fl m ix T ord h p hp fb hfb)
    · exact Lib.hid (bkFits1 w b ba bi bs bm l0 q0 n0 e0 l1 q1 n1 e1 v0 v1 N K fl m ix T ord h p hp fb hfb)
  have hlen := h.len
  have hreq : r = (fb && decide (0 < (fl.length : Int))) := by
    cases hr' : r with
    | true =>
      obtain ⟨h1, h2⟩ := hr.1 hr'
      have h3 := hfb.2 h1
      rw [h3, Bool.true_and]; symm; rw [decide_eq_true_iff]; omega
    | false =>
      have h0 : ¬ (FitsL s p (T.map ord) K ∧ T.length < N) := fun hh => by rw [hr.2 hh] at hr'; cases hr'
      symm
      rw [Bool.and_eq_false_iff]
      by_cases c : FitsL s p (T.map ord) K
      · right
        have : ¬ T.length < N := fun hh => h0 ⟨c, hh⟩
        rw [decide_eq_false_iff_not]; omega
      · left
        cases hb : fb with
        | true => exact absurd (hfb.1 hb) c
        | false => rfl
  have HB := Lib.hid h.blk
  have HA := Lib.hid h.a
  have HR := Lib.hid hreq
  clear hr hreq hfb h hs hlen
  cases fb
  · go_enter Try.func46, Try.ntmps46
    go_wp2_with fail
    refine HF.out.mono ?_
    rintro e w1 ⟨rfl, F⟩
    go_wp2_with fail
    go_ret
    exact ⟨by rw [HR.out]; rfl, F⟩
  · go_enter Try.func46, Try.ntmps46
    go_wp2_with fail
    refine HF.out.mono ?_
    rintro e w1 ⟨rfl, F⟩
    have c0 := (Blk.via F (by simp) HB.out).cell 0
    go_wp2_with fail
    refine (arRoom_any w1 ba N fl m (HA.out.fr F (by simp))).mono ?_
    rintro e w2 ⟨rfl, F2⟩
    go_wp2_with fail
    go_ret
    refine ⟨?_, F.trans F2⟩
    rw [HR.out]; simp
end
end Go.Proofs.Ytkimldeagndgjaa
