/- Words and contracts: Book BookB BookC BookD BookE BookF BookG BookH BookN BookO. -/
import Derived.Outline
import Derived.LoopN
import Derived.Test.YtkimldeagndgjaaG0
import Derived.Test.YtkimldeagndgjaaG3
import Derived.Test.YtkimldeagndgjaaG4
/- A book in memory; whether there is room, walked. -/
namespace Go.Proofs.Ytkimldeagndgjaa
set_option linter.unusedVariables false
set_option linter.unusedSimpArgs false
open Go.RowKit

def sideD (lp : Nat) (v : Value) (bq bn be : Nat) : List Nat := lp :: bq :: bn :: be :: v.ownBlock.toList
/-- A book in memory, all its blocks named; T the slots in the order of time, ord their orders. -/
structure BookR (w : World) (b ba bi bs bm l0 q0 n0 e0 l1 q1 n1 e1 : Nat) (v0 v1 : Value) (N K : Nat) (fl : List Nat) (m : Nat → Option Ord) (ix : Int → Option Nat) (T : List Nat) (ord : Nat → Ord) : Prop where
  blk : Blk w b 139 #[.pointer (some ⟨ba, 0, none⟩), .pointer (some ⟨l0, 0, none⟩), .pointer (some ⟨q0, 0, none⟩), .pointer (some ⟨l1, 0, none⟩), .pointer (some ⟨q1, 0, none⟩), .pointer (some ⟨bi, 0, none⟩)]
  a : ArI w ba N fl m
  x : IxI w bi bs bm ix T.length
  s0 : SideI w 0 l0 v0 q0 n0 e0 N K T ord
  s1 : SideI w 1 l1 v1 q1 n1 e1 N K T ord
  t : Times N T ord
  mt : ∀ i, i ∈ T → m i = some (ord i)
  mn : ∀ i, i ∉ T → m i = none
  ids : ∀ id s, ix id = some s ↔ s ∈ T ∧ (ord s).id = id
  len : T.length + fl.length = N
  K1 : 1 ≤ K
  K2 : K ≤ 200
  nd : ([b, ba, bi, bs, bm] ++ (sideD l0 v0 q0 n0 e0 ++ sideD l1 v1 q1 n1 e1)).Nodup
  lt : ∀ x ∈ [b, ba, bi, bs, bm] ++ (sideD l0 v0 q0 n0 e0 ++ sideD l1 v1 q1 n1 e1), x < w.heap.size
/-- A book in memory, with the orders L in the order of time; D its blocks. -/
def BookI (w : World) (b : Nat) (D : List Nat) (N K : Nat) (L : List Ord) : Prop :=
  ∃ ba bi bs bm l0 q0 n0 e0 l1 q1 n1 e1 v0 v1 fl m ix T ord, BookR w b ba bi bs bm l0 q0 n0 e0 l1 q1 n1 e1 v0 v1 N K fl m ix T ord ∧ D = [b, ba, bi, bs, bm] ++ (sideD l0 v0 q0 n0 e0 ++ sideD l1 v1 q1 n1 e1) ∧ L = T.map ord

section
variable {w : World} {b ba bi bs bm l0 q0 n0 e0 l1 q1 n1 e1 : Nat} {v0 v1 : Value} {N K : Nat} {fl : List Nat} {m : Nat → Option Ord} {ix : Int → Option Nat} {T : List Nat} {ord : Nat → Ord}
theorem BookR.fr (h : BookR w b ba bi bs bm l0 q0 n0 e0 l1 q1 n1 e1 v0 v1 N K fl m ix T ord) {S : List Nat} {W : World} (hf : Fr S w W) (hS : ∀ x ∈ [b, ba, bi, bs, bm] ++ (sideD l0 v0 q0 n0 e0 ++ sideD l1 v1 q1 n1 e1), x ∉ S) :
    BookR W b ba bi bs bm l0 q0 n0 e0 l1 q1 n1 e1 v0 v1 N K fl m ix T ord := by
  refine ⟨Blk.via hf (hS b (by simp)) h.blk, h.a.fr hf (hS ba (by simp)), h.x.fr hf (hS bi (by simp)) (hS bs (by simp)) (hS bm (by simp)), ?_, ?_, h.t, h.mt, h.mn, h.ids, h.len, h.K1, h.K2, h.nd, fun x hx => Nat.lt_of_lt_of_le (h.lt x hx) hf.size⟩
  · exact h.s0.fr hf (hS l0 (by simp [sideD])) (fun g hg => hS g (by simp [sideD, hg])) (hS q0 (by simp [sideD])) (hS n0 (by simp [sideD])) (hS e0 (by simp [sideD]))
  · exact h.s1.fr hf (hS l1 (by simp [sideD])) (fun g hg => hS g (by simp [sideD, hg])) (hS q1 (by simp [sideD])) (hS n1 (by simp [sideD])) (hS e1 (by simp [sideD]))
end
theorem BookI.fr {w W : World} {b N K : Nat} {D S : List Nat} {L : List Ord} (h : BookI w b D N K L) (hf : Fr S w W) (hS : ∀ x ∈ D, x ∉ S) : BookI W b D N K L := by
  obtain ⟨ba, bi, bs, bm, l0, q0, n0, e0, l1, q1, n1, e1, v0, v1, fl, m, ix, T, ord, hr, rfl, rfl⟩ := h
  exact ⟨ba, bi, bs, bm, l0, q0, n0, e0, l1, q1, n1, e1, v0, v1, fl, m, ix, T, ord, hr.fr hf hS, rfl, rfl⟩

theorem of_side0 (w : World) (b : Nat) : Calls Try.prog 83 #[.pointer (some ⟨b, 0, none⟩), .int .i64 0] w fun e w' => e = .returned (.pointer (some ⟨b, 1, none⟩)) ∧ w = w' := by
  go_enter Try.func83, Try.ntmps83
  go_wp2_with fail
  go_ret
  exact ⟨rfl, rfl⟩
theorem of_side1 (w : World) (b : Nat) : Calls Try.prog 83 #[.pointer (some ⟨b, 0, none⟩), .int .i64 1] w fun e w' => e = .returned (.pointer (some ⟨b, 3, none⟩)) ∧ w = w' := by
  go_enter Try.func83, Try.ntmps83
  go_wp2_with fail
  go_ret
  exact ⟨rfl, rfl⟩
theorem of_side_no (w : World) (b : Nat) (n : Int) (h0 : n ≠ 0) (h1 : n ≠ 1) : Calls Try.prog 83 #[.pointer (some ⟨b, 0, none⟩), .int .i64 n] w fun e w' => e = .returned (.pointer none) ∧ w = w' := by
  have a0 : (n != 0) = true := by simpa using h0
  have a1 : (n != 1) = true := by simpa using h1
  go_enter Try.func83, Try.ntmps83
  go_wp2_with fail
  go_ret
  exact ⟨rfl, rfl⟩
theorem of_side_nil (w : World) (n : Int) : Calls Try.prog 83 #[.pointer none, .int .i64 n] w fun e w' => e = .returned (.pointer none) ∧ w = w' := by
  go_enter Try.func83, Try.ntmps83
  go_wp2_with fail
  go_ret
  exact ⟨rfl, rfl⟩
theorem key_book (w : World) (id : Int) : Calls Try.prog 85 #[.int .i64 id] w fun e w' => e = .returned (.agg #[.int .i64 0, .int .i64 id]) ∧ Fr [] w w' := by
  go_enter Try.func85, Try.ntmps85
  go_wp2_with fail
  exact bodyPost_ret (v := .agg #[.int .i64 0, .int .i64 id]) (by simp [results, Try.results85, go_sem]) rfl ⟨rfl, by with_reducible repeat (first | exact Fr.refl _ _ | assumption | apply Fr.drew | apply Fr.drewN | apply Fr.alloc | (apply Fr.step; assumption; (intro _ h; (first | exact h | (focus (simp_all; done))))) | (apply Fr.setIn; (first | exact List.mem_cons_self | exact List.mem_cons_of_mem _ List.mem_cons_self | exact List.mem_cons_of_mem _ (List.mem_cons_of_mem _ List.mem_cons_self) | exact List.mem_cons_of_mem _ (List.mem_cons_of_mem _ (List.mem_cons_of_mem _ List.mem_cons_self)))) | (apply Fr.setNew; (first | omega | (simp; omega))))⟩

section
variable (w : World) (b ba bi bs bm l0 q0 n0 e0 l1 q1 n1 e1 : Nat) (v0 v1 : Value) (N K : Nat) (fl : List Nat) (m : Nat → Option Ord) (ix : Int → Option Nat) (T : List Nat) (ord : Nat → Ord)
theorem bkFits0 (h : BookR w b ba bi bs bm l0 q0 n0 e0 l1 q1 n1 e1 v0 v1 N K fl m ix T ord) (p : Int) (hp : In63 p) (r : Bool) (hr : r = true ↔ FitsL 0 p (T.map ord) K) :
    Calls Try.prog 47 #[.pointer (some ⟨b, 0, none⟩), .int .i64 0, .int .i64 p] w fun e w' => e = .returned (.bool r) ∧ Fr [] w w' := by
  have c1 := h.blk.cell 1
  go_enter Try.func47, Try.ntmps47
  go_wp2_with fail
  refine (of_side0 w b).mono ?_
  rintro e w1 ⟨rfl, rfl⟩
  go_wp2_with fail
  refine (side_fits w 0 l0 v0 q0 n0 e0 N K T ord h.s0 p hp r hr).mono ?_
  rintro e w1 ⟨rfl, F⟩
  go_wp2_with fail
  go_ret
  exact ⟨rfl, F⟩
theorem bkFits1 (h : BookR w b ba bi bs bm l0 q0 n0 e0 l1 q1 n1 e1 v0 v1 N K fl m ix T ord) (p : Int) (hp : In63 p) (r : Bool) (hr : r = true ↔ FitsL 1 p (T.map ord) K) :
    Calls Try.prog 47 #[.pointer (some ⟨b, 0, none⟩), .int .i64 1, .int .i64 p] w fun e w' => e = .returned (.bool r) ∧ Fr [] w w' := by
  have c1 := h.blk.cell 3
  go_enter Try.func47, Try.ntmps47
  go_wp2_with fail
  refine (of_side1 w b).mono ?_
  rintro e w1 ⟨rfl, rfl⟩
  go_wp2_with fail
  refine (side_fits w 1 l1 v1 q1 n1 e1 N K T ord h.s1 p hp r hr).mono ?_
  rintro e w1 ⟨rfl, F⟩
  go_wp2_with fail
  go_ret
  exact ⟨rfl, F⟩
theorem bkRoom (h : BookR w b ba bi bs bm l0 q0 n0 e0 l1 q1 n1 e1 v0 v1 N K fl m ix T ord) (s : Int) (hs : s = 0 ∨ s = 1) (p : Int) (hp : In63 p) (r : Bool) (hr : r = true ↔ (FitsL s p (T.map ord) K ∧ T.length < N)) :
    Calls Try.prog 46 #[.pointer (some ⟨b, 0, none⟩), .int .i64 s, .int .i64 p] w fun e w' => e = .returned (.bool r) ∧ Fr [] w w' := by
  obtain ⟨fb, hfb⟩ : ∃ fb : Bool, fb = true ↔ FitsL s p (T.map ord) K := by
    by_cases c : FitsL s p (T.map ord) K
    · exact ⟨true, by simp [c]⟩
    · exact ⟨false, by simp [c]⟩
  have HF : Hid (Calls Try.prog 47 #[.pointer (some ⟨b, 0, none⟩), .int .i64 s, .int .i64 p] w fun e w' => e = .returned (.bool fb) ∧ Fr [] w w') := by
    rcases hs with rfl | rfl
    · exact Lib.hid (bkFits0 w b ba bi bs bm l0 q0 n0 e0 l1 q1 n1 e1 v0 v1 N K fl m ix T ord h p hp fb hfb)
    · exact Lib.hid (bkFits1 w b ba bi bs bm l0 q0 n0 e0 l1 q1 n1 e1 v0 v1 N K fl m ix T ord h p hp fb hfb)
  have hlen := h.len
  have hreq : r = (fb && decide (0 < (fl.length : Int))) := by
    cases hr' : r with
    | true =>
      obtain ⟨h1, h2⟩ := hr.1 hr'
      have h3 := hfb.2 h1
      rw [h3, Bool.true_and]; symm; rw [decide_eq_true_iff]; omega
    | false =>
      have h0 : ¬ (FitsL s p (T.map ord) K ∧ T.length < N) := fun hh => by rw [hr.2 hh] at hr'; cases hr'
      symm
      rw [Bool.and_eq_false_iff]
      by_cases c : FitsL s p (T.map ord) K
      · right
        have : ¬ T.length < N := fun hh => h0 ⟨c, hh⟩
        rw [decide_eq_false_iff_not]; omega
      · left
        cases hb : fb with
        | true => exact absurd (hfb.1 hb) c
        | false => rfl
  have HB := Lib.hid h.blk
  have HA := Lib.hid h.a
  have HR := Lib.hid hreq
  clear hr hreq hfb h hs hlen
  cases fb
  · go_enter Try.func46, Try.ntmps46
    go_wp2_with fail
    refine HF.out.mono ?_
    rintro e w1 ⟨rfl, F⟩
    go_wp2_with fail
    go_ret
    exact ⟨by rw [HR.out]; rfl, F⟩
  · go_enter Try.func46, Try.ntmps46
    go_wp2_with fail
    refine HF.out.mono ?_
    rintro e w1 ⟨rfl, F⟩
    have c0 := (Blk.via F (by simp) HB.out).cell 0
    go_wp2_with fail
    refine (arRoom_any w1 ba N fl m (HA.out.fr F (by simp))).mono ?_
    rintro e w2 ⟨rfl, F2⟩
    go_wp2_with fail
    go_ret
    refine ⟨?_, F.trans F2⟩
    rw [HR.out]; simp
end
end Go.Proofs.Ytkimldeagndgjaa

/- A book: an order is added, walked. -/
namespace Go.Proofs.Ytkimldeagndgjaa
set_option linter.unusedVariables false
set_option linter.unusedSimpArgs false
open Go.RowKit

set_option maxHeartbeats 2000000 in
theorem bkAdd_core (w : World) (b ba bi bs bm lp bq bn be so : Nat) (v : Value) (N K n : Nat) (fl : List Nat) (m : Nat → Option Ord) (ix : Int → Option Nat) (T : List Nat) (ord : Nat → Ord) (s : Int) (o : Ord) (bc : Array Value)
    (hbk : Blk w b 139 bc) (hb0 : bc[0]? = some (.pointer (some ⟨ba, 0, none⟩))) (hb1 : bc[so]? = some (.pointer (some ⟨lp, 0, none⟩))) (hb2 : bc[so + 1]? = some (.pointer (some ⟨bq, 0, none⟩))) (hb5 : bc[5]? = some (.pointer (some ⟨bi, 0, none⟩)))
    (hof : ∀ W, Calls Try.prog 83 #[.pointer (some ⟨b, 0, none⟩), .int .i64 o.sd] W fun e W' => e = .returned (.pointer (some ⟨b, so, none⟩)) ∧ W = W')
    (hroom : ∀ W, Fr [] w W → Calls Try.prog 46 #[.pointer (some ⟨b, 0, none⟩), .int .i64 o.sd, .int .i64 o.pr] W fun e W' => e = .returned (.bool true) ∧ Fr [] W W')
    (ha : ArI w ba N (n :: fl) m) (hx : IxI w bi bs bm ix T.length) (hs : SideI w s lp v bq bn be N K T ord) (ht : Times N T ord) (hK : K ≤ 400) (hnT : n ∉ T) (ho : Good o) (hsd : o.sd = s) (hid : ix o.id = none) (hfit : FitsL s o.pr (T.map ord) K)
    (hnd : ([b, ba, bi, bs, bm] ++ sideD lp v bq bn be).Nodup) (hlt : ∀ x ∈ [b, ba, bi, bs, bm] ++ sideD lp v bq bn be, x < w.heap.size) :
    Calls Try.prog 23 #[.pointer (some ⟨b, 0, none⟩), .agg o.a] w fun e w' => e = .returned (.int .i64 0) ∧ ∃ v', Fr (ba :: bs :: bm :: sideD lp v bq bn be) w w' ∧ (v'.ownBlock = v.ownBlock ∨ ∃ g, v'.ownBlock = some g ∧ w.heap.size ≤ g) ∧
      ArI w' ba N fl (updO m n (some o)) ∧ IxI w' bi bs bm (updm ix o.id (some n)) (T.length + 1) ∧ SideI w' s lp v' bq bn be N K (T ++ [n]) (updO ord n o) := by
  have HK := Lib.hid hK
  have HT := Lib.hid ht
  have HG := Lib.hid ho
  have HS := Lib.hid hs
  have HA := Lib.hid ha
  have HX := Lib.hid hx
  have HF := Lib.hid hfit
  have HN := Lib.hid hnT
  have HSD := Lib.hid hsd
  have HID := Lib.hid hid
  have HND := Lib.hid hnd
  have HLT := Lib.hid hlt
  have HR := Lib.hid hroom
  have HO := Lib.hid hof
  have p1 : ¬ o.pr < 1 := by have := ho.pr; omega
  have p2 : ¬ 1099511627776 < o.pr := by have := ho.pr; omega
  have p3 : ¬ o.qt < 1 := by have := ho.qt; omega
  have p4 : ¬ 4294967296 < o.qt := by have := ho.qt; omega
  clear hK ht ho hs ha hx hfit hnT hsd hid hnd hroom hof hlt
  go_enter Try.func23, Try.ntmps23
  go_wp2_with fail
  refine calls_named (fun W0 hW => ?_)
  have B0 := Blk.box0 hW
  have F0 : Fr [] w W0 := Fr.eqv hW (by with_reducible repeat (first | exact Fr.refl _ _ | assumption | apply Fr.drew | apply Fr.drewN | apply Fr.alloc | (apply Fr.step; assumption; (intro _ h; (first | exact h | (focus (simp_all; done))))) | (apply Fr.setIn; (first | exact List.mem_cons_self | exact List.mem_cons_of_mem _ List.mem_cons_self | exact List.mem_cons_of_mem _ (List.mem_cons_of_mem _ List.mem_cons_self) | exact List.mem_cons_of_mem _ (List.mem_cons_of_mem _ (List.mem_cons_of_mem _ List.mem_cons_self)))) | (apply Fr.setNew; (first | omega | (simp; omega)))))
  have K0 := Blk.via F0 (by simp) hbk
  clear hW
  refine (HO.out W0).mono ?_
  rintro e w1 ⟨rfl, rfl⟩
  have q0 := B0.cell
  go_wp2_with fail
  have HGet : Hid (∀ W, Fr [] W0 W → Calls Try.prog 84 #[.pointer (some ⟨bi, 0, none⟩), .agg #[.int .i64 0, .int .i64 o.id]] W fun e w' => e = .returned (.tuple #[.int .i64 0, .bool false]) ∧ Fr [] W w') := Lib.hid fun W hf => by
    have := ixGet_any W bi bs bm T.length ix (HX.out.fr (F0.trans hf) (by simp) (by simp) (by simp)) o.id
    rw [HID.out] at this
    exact this
  clear q0
  refine wp_region_soft (by kernel_rfl) (by kernel_rfl) ?_; (repeat (refine wpQuiet_step (fun K hK => ?_); (first | ((fail); go_simp; refine hK _ ?_; clear hK K) | (apply soft_do; (rfl); (focus (intro W hC; (have q2 := (Blk.via hC (by simp) B0).cell; have q5 := ((Blk.via hC (by simp) K0).cell 5).trans hb5); go_simp; (first | (first | (go_at_call 85; refine (key_book _ _).mono ?_; rintro e w2 ⟨rfl, hf⟩; exact ⟨rfl, hC.trans hf⟩) | (go_at_call 84; refine (HGet.out _ hC).mono ?_; rintro e w2 ⟨rfl, hf⟩; exact ⟨rfl, hC.trans hf⟩)) | done | rfl | exact ⟨rfl, rfl⟩))); (go_simp; refine hK _ ?_; clear hK K)) | (apply soft_skip; (rfl); (go_simp; refine hK _ ?_; clear hK K))))); refine wpQuiet_nil ?_
  intro w2 F2
  have B2 := Blk.via F2 (by simp) B0
  have F02 := F0.trans F2
  have q2 := B2.cell
  clear B0 F2 F0 K0 HGet
  go_wp2_with fail
  refine (HR.out w2 F02).mono ?_
  rintro e w3 ⟨rfl, F3⟩
  have F03 := F02.trans F3
  have B3 := Blk.via F3 (by simp) B2
  have K3 := Blk.via F03 (by simp) hbk
  clear B2 F3 F02 q2
  go_wp2_with fail
  have nds := HND.out
  simp only [sideD, List.cons_append, List.nil_append, List.nodup_cons, List.mem_cons, not_or] at nds
  obtain ⟨⟨d1, d2, d3, d4, d5, d6, d7, d8, d9⟩, ⟨e2, e3, e4, e5, e6, e7, e8, e9⟩, ⟨f3, f4, f5, f6, f7, f8, f9⟩, ⟨g4, g5, g6, g7, g8, g9⟩, ⟨h5, h6, h7, h8, h9⟩, ⟨i6, i7, i8, i9⟩, ⟨j7, j8, j9⟩, ⟨k8, k9⟩, l9, _⟩ := nds
  have ltb := hbk.lt
  have ne0 : w.heap.size ≠ ba := by obtain ⟨_, _, hb, _⟩ := HA.out.b; have := Blk.lt hb; omega
  have A3 := HA.out.fr F03 (by simp)
  clear hbk
  refine u_region (S := fun w' => (∀ i, w'.cell? ⟨w.heap.size, i, none⟩ = (o.a)[i]?) ∧ w'.cell? ⟨b, 0, none⟩ = some (.pointer (some ⟨ba, 0, none⟩))) 10 (by kernel_rfl) (by kernel_rfl) (by kernel_rfl) (by kernel_rfl) (by kernel_rfl) ⟨fun i => B3.drew.cell i, (K3.drew.cell 0).trans hb0⟩ ?_
  (refine u_take 0 (v := ?_) rfl rfl (by kernel_rfl) (by kernel_rfl) (fun _ _ _ h => h) (Or.inl ⟨by rfl, ?_⟩) ?_; rotate_left; (focus (intro wz hSw; (try dsimp only at hSw); go_simp; (try with_reducible rfl))); (try simp only [Act.put, List.getElem_toArray, List.getElem_cons_succ, List.getElem_cons_zero, List.setIfInBounds_toArray, List.set_cons_zero, List.set_cons_succ]))
  (refine u_take 1 (v := ?_) rfl rfl (by kernel_rfl) (by kernel_rfl) (fun _ _ _ h => h) (Or.inl ⟨by rfl, ?_⟩) ?_; rotate_left; (focus (intro wz hSw; (try dsimp only at hSw); go_simp; (try with_reducible rfl))); (try simp only [Act.put, List.getElem_toArray, List.getElem_cons_succ, List.getElem_cons_zero, List.setIfInBounds_toArray, List.set_cons_zero, List.set_cons_succ]))
  (refine u_take 2 (v := ?_) rfl rfl (by kernel_rfl) (by kernel_rfl) (fun _ _ _ h => h) (Or.inl ⟨by rfl, ?_⟩) ?_; rotate_left; (focus (intro wz hSw; (try dsimp only at hSw); go_simp; (try with_reducible rfl))); (try simp only [Act.put, List.getElem_toArray, List.getElem_cons_succ, List.getElem_cons_zero, List.setIfInBounds_toArray, List.set_cons_zero, List.set_cons_succ]))
  (refine u_take 3 (v := ?_) rfl rfl (by kernel_rfl) (by kernel_rfl) (fun _ _ _ h => h) (Or.inl ⟨by rfl, ?_⟩) ?_; rotate_left; (focus (intro wz hSw; (try dsimp only at hSw); go_simp; (try with_reducible rfl))); (try simp only [Act.put, List.getElem_toArray, List.getElem_cons_succ, List.getElem_cons_zero, List.setIfInBounds_toArray, List.set_cons_zero, List.set_cons_succ]))
  (refine u_take 4 (v := ?_) rfl rfl (by kernel_rfl) (by kernel_rfl) (fun _ _ _ h => h) (Or.inl ⟨by rfl, ?_⟩) ?_; rotate_left; (focus (intro wz hSw; (try dsimp only at hSw); go_simp; (try with_reducible rfl))); (try simp only [Act.put, List.getElem_toArray, List.getElem_cons_succ, List.getElem_cons_zero, List.setIfInBounds_toArray, List.set_cons_zero, List.set_cons_succ]))
  refine u_one 5 (by kernel_rfl) rfl rfl (fun Kq hKq => ?_)
  go_simp
  refine (arTake_any w3.drew ba N n fl m (A3.fr (S := []) (Fr.drew (Fr.refl _ _)) (by simp)) o).mono ?_
  rintro e w4 ⟨rfl, F4, A4, hnN, _⟩
  have F34 : Fr [ba] w3 w4 := (Fr.drew (Fr.refl _ _)).trans F4
  have B4 := Blk.via F34 (by simpa using ne0) B3
  have K4 := Blk.via F34 (by simpa using d1) K3
  refine hKq _ _ ⟨fun i => B4.cell i, (K4.cell 0).trans hb0⟩ ?_
  clear hKq Kq
  (try simp only [Act.put, List.getElem_toArray, List.getElem_cons_succ, List.getElem_cons_zero, List.setIfInBounds_toArray, List.set_cons_zero, List.set_cons_succ])
  (refine u_take 6 (v := ?_) rfl rfl (by kernel_rfl) (by kernel_rfl) (fun _ _ _ h => h) (Or.inl ⟨by rfl, ?_⟩) ?_; rotate_left; (focus (intro wz hSw; (try dsimp only at hSw); go_simp; (try with_reducible rfl))); (try simp only [Act.put, List.getElem_toArray, List.getElem_cons_succ, List.getElem_cons_zero, List.setIfInBounds_toArray, List.set_cons_zero, List.set_cons_succ]))
  (refine u_take 7 (v := ?_) rfl rfl (by kernel_rfl) (by kernel_rfl) (fun _ _ _ h => h) (Or.inl ⟨by rfl, ?_⟩) ?_; rotate_left; (focus (intro wz hSw; (try dsimp only at hSw); go_simp; (try with_reducible rfl))); (try simp only [Act.put, List.getElem_toArray, List.getElem_cons_succ, List.getElem_cons_zero, List.setIfInBounds_toArray, List.set_cons_zero, List.set_cons_succ]))
  (refine u_take 8 (v := ?_) rfl rfl (by kernel_rfl) (by kernel_rfl) (fun _ _ _ h => h) (Or.inl ⟨by rfl, ?_⟩) ?_; rotate_left; (focus (intro wz hSw; (try dsimp only at hSw); go_simp; (try with_reducible rfl))); (try simp only [Act.put, List.getElem_toArray, List.getElem_cons_succ, List.getElem_cons_zero, List.setIfInBounds_toArray, List.set_cons_zero, List.set_cons_succ]))
  (refine u_take 9 (v := ?_) rfl rfl (by kernel_rfl) (by kernel_rfl) (fun _ _ _ h => h) (Or.inl ⟨by rfl, ?_⟩) ?_; rotate_left; (focus (intro wz hSw; (try dsimp only at hSw); go_simp; (try with_reducible rfl))); (try simp only [Act.put, List.getElem_toArray, List.getElem_cons_succ, List.getElem_cons_zero, List.setIfInBounds_toArray, List.set_cons_zero, List.set_cons_succ]))
  refine u_last (by kernel_rfl) rfl (by kernel_rfl) ?_
  have F04 : Fr [ba] w w4 := (F03.mono (by simp)).trans F34
  clear F4 F34 B3 K3 A3
  go_wp2_with fail
  have hS4 : SideI w4.drew s lp v bq bn be N K T ord := HS.out.fr (S := [ba]) F04.drew (by simpa using Ne.symm e5) (fun g hg hm => by
    obtain rfl : g = ba := by simpa using hm
    exact e9 (by simpa using hg)) (by simpa using Ne.symm e6) (by simpa using Ne.symm e7) (by simpa using Ne.symm e8)
  have nw : ∀ x, x ∈ [b, ba, bi, bs, bm] ++ sideD lp v bq bn be → w.heap.size ≠ x := fun x hx e => by have := HLT.out x hx; omega
  have HW := Lib.hid nw
  clear nw
  refine u_region (S := fun w' => (∀ i, w'.cell? ⟨w.heap.size, i, none⟩ = (o.a)[i]?) ∧ w'.cell? ⟨b, so, none⟩ = some (.pointer (some ⟨lp, 0, none⟩))) 13 (by kernel_rfl) (by kernel_rfl) (by kernel_rfl) (by kernel_rfl) (by kernel_rfl) ⟨fun i => B4.drew.cell i, (K4.drew.cell so).trans hb1⟩ ?_
  (refine u_take 0 (v := ?_) rfl rfl (by kernel_rfl) (by kernel_rfl) (fun _ _ _ h => h) (Or.inl ⟨by rfl, ?_⟩) ?_; rotate_left; (focus (intro wz hSw; (try dsimp only at hSw); go_simp; (try with_reducible rfl))); (try simp only [Act.put, List.getElem_toArray, List.getElem_cons_succ, List.getElem_cons_zero, List.setIfInBounds_toArray, List.set_cons_zero, List.set_cons_succ]))
  (refine u_take 1 (v := ?_) rfl rfl (by kernel_rfl) (by kernel_rfl) (fun _ _ _ h => h) (Or.inl ⟨by rfl, ?_⟩) ?_; rotate_left; (focus (intro wz hSw; (try dsimp only at hSw); go_simp; (try with_reducible rfl))); (try simp only [Act.put, List.getElem_toArray, List.getElem_cons_succ, List.getElem_cons_zero, List.setIfInBounds_toArray, List.set_cons_zero, List.set_cons_succ]))
  (refine u_take 2 (v := ?_) rfl rfl (by kernel_rfl) (by kernel_rfl) (fun _ _ _ h => h) (Or.inl ⟨by rfl, ?_⟩) ?_; rotate_left; (focus (intro wz hSw; (try dsimp only at hSw); go_simp; (try with_reducible rfl))); (try simp only [Act.put, List.getElem_toArray, List.getElem_cons_succ, List.getElem_cons_zero, List.setIfInBounds_toArray, List.set_cons_zero, List.set_cons_succ]))
  (refine u_take 3 (v := ?_) rfl rfl (by kernel_rfl) (by kernel_rfl) (fun _ _ _ h => h) (Or.inl ⟨by rfl, ?_⟩) ?_; rotate_left; (focus (intro wz hSw; (try dsimp only at hSw); go_simp; (try with_reducible rfl))); (try simp only [Act.put, List.getElem_toArray, List.getElem_cons_succ, List.getElem_cons_zero, List.setIfInBounds_toArray, List.set_cons_zero, List.set_cons_succ]))
  (refine u_take 4 (v := ?_) rfl rfl (by kernel_rfl) (by kernel_rfl) (fun _ _ _ h => h) (Or.inl ⟨by rfl, ?_⟩) ?_; rotate_left; (focus (intro wz hSw; (try dsimp only at hSw); go_simp; (try with_reducible rfl))); (try simp only [Act.put, List.getElem_toArray, List.getElem_cons_succ, List.getElem_cons_zero, List.setIfInBounds_toArray, List.set_cons_zero, List.set_cons_succ]))
  (refine u_take 5 (v := ?_) rfl rfl (by kernel_rfl) (by kernel_rfl) (fun _ _ _ h => h) (Or.inl ⟨by rfl, ?_⟩) ?_; rotate_left; (focus (intro wz hSw; (try dsimp only at hSw); go_simp; (try with_reducible rfl))); (try simp only [Act.put, List.getElem_toArray, List.getElem_cons_succ, List.getElem_cons_zero, List.setIfInBounds_toArray, List.set_cons_zero, List.set_cons_succ]))
  (refine u_take 6 (v := ?_) rfl rfl (by kernel_rfl) (by kernel_rfl) (fun _ _ _ h => h) (Or.inl ⟨by rfl, ?_⟩) ?_; rotate_left; (focus (intro wz hSw; (try dsimp only at hSw); go_simp; (try with_reducible rfl))); (try simp only [Act.put, List.getElem_toArray, List.getElem_cons_succ, List.getElem_cons_zero, List.setIfInBounds_toArray, List.set_cons_zero, List.set_cons_succ]))
  (refine u_take 7 (v := ?_) rfl rfl (by kernel_rfl) (by kernel_rfl) (fun _ _ _ h => h) (Or.inl ⟨by rfl, ?_⟩) ?_; rotate_left; (focus (intro wz hSw; (try dsimp only at hSw); go_simp; (try with_reducible rfl))); (try simp only [Act.put, List.getElem_toArray, List.getElem_cons_succ, List.getElem_cons_zero, List.setIfInBounds_toArray, List.set_cons_zero, List.set_cons_succ]))
  refine u_one 8 (by kernel_rfl) rfl rfl (fun Kq hKq => ?_)
  go_simp
  refine (side_put w4.drew s lp v bq bn be N K T ord hS4 HT.out HK.out n HN.out o HG.out HSD.out HF.out).mono ?_
  rintro e w5 ⟨k, v', rfl, F5, hv', Lq, HQ, hkK, hnot, hfin⟩
  have nS : w.heap.size ∉ lp :: v.ownBlock.toList := fun hm => HW.out w.heap.size (by
    rcases List.mem_cons.1 hm with e | e
    · rw [e]; simp [sideD]
    · simp only [sideD, List.mem_append, List.mem_cons]; exact .inr (.inr (.inr (.inr (.inr e))))) rfl
  have nb : b ∉ lp :: v.ownBlock.toList := fun hm => by
    rcases List.mem_cons.1 hm with e | e
    · exact d5 e
    · exact d9 e
  have B5 := Blk.via F5 nS B4.drew
  have K5 := Blk.via F5 nb K4.drew
  refine hKq _ _ ⟨fun i => B5.cell i, (K5.cell so).trans hb1⟩ ?_
  clear hKq Kq
  (try simp only [Act.put, List.getElem_toArray, List.getElem_cons_succ, List.getElem_cons_zero, List.setIfInBounds_toArray, List.set_cons_zero, List.set_cons_succ])
  (refine u_take 9 (v := ?_) rfl rfl (by kernel_rfl) (by kernel_rfl) (fun _ _ _ h => h) (Or.inl ⟨by rfl, ?_⟩) ?_; rotate_left; (focus (intro wz hSw; (try dsimp only at hSw); go_simp; (try with_reducible rfl))); (try simp only [Act.put, List.getElem_toArray, List.getElem_cons_succ, List.getElem_cons_zero, List.setIfInBounds_toArray, List.set_cons_zero, List.set_cons_succ]))
  (refine u_take 10 (v := ?_) rfl rfl (by kernel_rfl) (by kernel_rfl) (fun _ _ _ h => h) (Or.inl ⟨by rfl, ?_⟩) ?_; rotate_left; (focus (intro wz hSw; (try dsimp only at hSw); go_simp; (try with_reducible rfl))); (try simp only [Act.put, List.getElem_toArray, List.getElem_cons_succ, List.getElem_cons_zero, List.setIfInBounds_toArray, List.set_cons_zero, List.set_cons_succ]))
  (refine u_take 11 (v := ?_) rfl rfl (by kernel_rfl) (by kernel_rfl) (fun _ _ _ h => h) (Or.inl ⟨by rfl, ?_⟩) ?_; rotate_left; (focus (intro wz hSw; (try dsimp only at hSw); go_simp; (try with_reducible rfl))); (try simp only [Act.put, List.getElem_toArray, List.getElem_cons_succ, List.getElem_cons_zero, List.setIfInBounds_toArray, List.set_cons_zero, List.set_cons_succ]))
  (refine u_take 12 (v := ?_) rfl rfl (by kernel_rfl) (by kernel_rfl) (fun _ _ _ h => h) (Or.inl ⟨by rfl, ?_⟩) ?_; rotate_left; (focus (intro wz hSw; (try dsimp only at hSw); go_simp; (try with_reducible rfl))); (try simp only [Act.put, List.getElem_toArray, List.getElem_cons_succ, List.getElem_cons_zero, List.setIfInBounds_toArray, List.set_cons_zero, List.set_cons_succ]))
  refine u_last (by kernel_rfl) rfl (by kernel_rfl) ?_
  have F45 : Fr (lp :: v.ownBlock.toList) w4 w5 := (Fr.drew (Fr.refl _ _)).trans F5
  have HFIN := Lib.hid hfin
  have HNOT := Lib.hid hnot
  clear F5 B4 K4 hS4 hfin hnot
  have qq := (K5.cell (so + 1)).trans hb2
  go_wp2_with fail
  refine (push_yes HQ k n hkK hnN HNOT.out).mono ?_
  rintro e w6 ⟨rfl, F6, HQ6⟩
  have S6 := HFIN.out w6 F6 HQ6
  have B6 := Blk.via F6 (by simpa using ⟨HW.out bn (by simp [sideD]), HW.out be (by simp [sideD])⟩) B5
  have K6 := Blk.via F6 (by simpa using ⟨d7, d8⟩) K5
  clear qq B5 K5 HQ HQ6
  go_wp2_with fail
  refine u_region (S := fun w' => (∀ i, w'.cell? ⟨w.heap.size, i, none⟩ = (o.a)[i]?) ∧ w'.cell? ⟨b, 5, none⟩ = some (.pointer (some ⟨bi, 0, none⟩))) 8 (by kernel_rfl) (by kernel_rfl) (by kernel_rfl) (by kernel_rfl) (by kernel_rfl) ⟨fun i => B6.drew.cell i, (K6.drew.cell 5).trans hb5⟩ ?_
  (refine u_take 0 (v := ?_) rfl rfl (by kernel_rfl) (by kernel_rfl) (fun _ _ _ h => h) (Or.inl ⟨by rfl, ?_⟩) ?_; rotate_left; (focus (intro wz hSw; (try dsimp only at hSw); go_simp; (try with_reducible rfl))); (try simp only [Act.put, List.getElem_toArray, List.getElem_cons_succ, List.getElem_cons_zero, List.setIfInBounds_toArray, List.set_cons_zero, List.set_cons_succ]))
  (refine u_take 1 (v := ?_) rfl rfl (by kernel_rfl) (by kernel_rfl) (fun _ _ _ h => h) (Or.inl ⟨by rfl, ?_⟩) ?_; rotate_left; (focus (intro wz hSw; (try dsimp only at hSw); go_simp; (try with_reducible rfl))); (try simp only [Act.put, List.getElem_toArray, List.getElem_cons_succ, List.getElem_cons_zero, List.setIfInBounds_toArray, List.set_cons_zero, List.set_cons_succ]))
  (refine u_take 2 (v := ?_) rfl rfl (by kernel_rfl) (by kernel_rfl) (fun _ _ _ h => h) (Or.inl ⟨by rfl, ?_⟩) ?_; rotate_left; (focus (intro wz hSw; (try dsimp only at hSw); go_simp; (try with_reducible rfl))); (try simp only [Act.put, List.getElem_toArray, List.getElem_cons_succ, List.getElem_cons_zero, List.setIfInBounds_toArray, List.set_cons_zero, List.set_cons_succ]))
  (refine u_take 3 (v := ?_) rfl rfl (by kernel_rfl) (by kernel_rfl) (fun _ _ _ h => h) (Or.inl ⟨by rfl, ?_⟩) ?_; rotate_left; (focus (intro wz hSw; (try dsimp only at hSw); go_simp; (try with_reducible rfl))); (try simp only [Act.put, List.getElem_toArray, List.getElem_cons_succ, List.getElem_cons_zero, List.setIfInBounds_toArray, List.set_cons_zero, List.set_cons_succ]))
  (refine u_take 4 (v := ?_) rfl rfl (by kernel_rfl) (by kernel_rfl) (fun _ _ _ h => h) (Or.inl ⟨by rfl, ?_⟩) ?_; rotate_left; (focus (intro wz hSw; (try dsimp only at hSw); go_simp; (try with_reducible rfl))); (try simp only [Act.put, List.getElem_toArray, List.getElem_cons_succ, List.getElem_cons_zero, List.setIfInBounds_toArray, List.set_cons_zero, List.set_cons_succ]))
  (refine u_take 5 (v := ?_) rfl rfl (by kernel_rfl) (by kernel_rfl) (fun _ _ _ h => h) (Or.inl ⟨by rfl, ?_⟩) ?_; rotate_left; (focus (intro wz hSw; (try dsimp only at hSw); go_simp; (try with_reducible rfl))); (try simp only [Act.put, List.getElem_toArray, List.getElem_cons_succ, List.getElem_cons_zero, List.setIfInBounds_toArray, List.set_cons_zero, List.set_cons_succ]))
  (refine u_take 7 (v := ?_) rfl rfl (by kernel_rfl) (by kernel_rfl) (fun _ _ _ h => h) (Or.inl ⟨by rfl, ?_⟩) ?_; rotate_left; (focus (intro wz hSw; (try dsimp only at hSw); go_simp; (try with_reducible rfl))); (try simp only [Act.put, List.getElem_toArray, List.getElem_cons_succ, List.getElem_cons_zero, List.setIfInBounds_toArray, List.set_cons_zero, List.set_cons_succ]))
  refine u_one 6 (by kernel_rfl) rfl rfl (fun Kq hKq => ?_)
  go_simp
  refine (key_book w6.drew o.id).mono ?_
  rintro e w7 ⟨rfl, F7⟩
  have F67 : Fr [] w6 w7 := (Fr.drew (Fr.refl _ _)).trans F7
  have B7 := Blk.via F67 (by simp) B6
  have K7 := Blk.via F67 (by simp) K6
  refine hKq _ _ ⟨fun i => B7.cell i, (K7.cell 5).trans hb5⟩ ?_
  clear hKq Kq
  (try simp only [Act.put, List.getElem_toArray, List.getElem_cons_succ, List.getElem_cons_zero, List.setIfInBounds_toArray, List.set_cons_zero, List.set_cons_succ])
  refine u_last (by kernel_rfl) rfl (by kernel_rfl) ?_
  have F07 : Fr (ba :: bn :: be :: lp :: v.ownBlock.toList) w w7 := (((F04.mono (by simp)).trans (F45.mono fun x hx => List.mem_cons_of_mem _ (List.mem_cons_of_mem _ (List.mem_cons_of_mem _ hx)))).trans (F6.mono (by simp))).trans (F67.mono (by simp))
  have nF : ∀ x, x ≠ ba → x ≠ bn → x ≠ be → x ≠ lp → x ∉ v.ownBlock.toList → x ∉ ba :: bn :: be :: lp :: v.ownBlock.toList := fun x a1 a2 a3 a4 a5 hm => by
    simp only [List.mem_cons] at hm
    rcases hm with e | e | e | e | e
    · exact a1 e
    · exact a2 e
    · exact a3 e
    · exact a4 e
    · exact a5 e
  have X7 := HX.out.fr F07 (nF bi (Ne.symm e2) f7 f8 f5 f9) (nF bs (Ne.symm e3) g7 g8 g5 g9) (nF bm (Ne.symm e4) h7 h8 h5 h9)
  have hn500 : n ≤ 1000 := by have := A4.N2; omega
  have hT500 : T.length < 1000 := by have h1 := HT.out.len; have h2 := HT.out.N2; omega
  clear B6 K6 B7 K7
  go_wp2_with fail
  refine (ixPut_new w7 bi bs bm T.length ix X7 o.id n HID.out hn500 hT500).mono ?_
  rintro e w8 ⟨rfl, F8, X8⟩
  go_wp2_with fail
  go_ret
  have A8 : ArI w8 ba N fl (updO m n (some o)) := by
    have FF : Fr (bs :: bm :: bn :: be :: lp :: v.ownBlock.toList) w4 w8 := (((F45.mono fun x hx => List.mem_cons_of_mem _ (List.mem_cons_of_mem _ (List.mem_cons_of_mem _ (List.mem_cons_of_mem _ hx)))).trans (F6.mono (by simp))).trans (F67.mono (by simp))).trans (F8.mono (by simp))
    refine A4.fr FF fun hm => ?_
    simp only [List.mem_cons] at hm
    rcases hm with e | e | e | e | e | e
    · exact e3 e
    · exact e4 e
    · exact e7 e
    · exact e8 e
    · exact e5 e
    · exact e9 e
  have S8 : SideI w8 s lp v' bq bn be N K (T ++ [n]) (updO ord n o) := by
    have FF : Fr [bs, bm] w6 w8 := (F67.mono (by simp)).trans F8
    refine S6.fr FF (by simpa using ⟨Ne.symm g5, Ne.symm h5⟩) (fun g hg hm => ?_) (by simpa using ⟨Ne.symm g6, Ne.symm h6⟩) (by simpa using ⟨Ne.symm g7, Ne.symm h7⟩) (by simpa using ⟨Ne.symm g8, Ne.symm h8⟩)
    have hgl : g < w.heap.size := by
      rcases (show g = bs ∨ g = bm by simpa using hm) with rfl | rfl
      · exact HLT.out _ (by simp)
      · exact HLT.out _ (by simp)
    rcases hv' with e | ⟨g', e, hge⟩
    · rw [e] at hg
      rcases (show g = bs ∨ g = bm by simpa using hm) with rfl | rfl
      · exact g9 (by simpa using hg)
      · exact h9 (by simpa using hg)
    · rw [hg] at e; injection e with e
      have := F04.size
      have h2 : w4.heap.size ≤ g' := hge
      omega
  refine ⟨rfl, v', ?_, ?_, A8, X8, S8⟩
  · refine (F07.mono fun x hx => ?_).trans (F8.mono fun x hx => ?_)
    · simp only [List.mem_cons, sideD] at hx ⊢
      rcases hx with e | e | e | e | e <;> simp [e]
    · simp only [List.mem_cons, List.not_mem_nil, or_false] at hx
      rcases hx with e | e <;> simp [e]
  · rcases hv' with e | ⟨g', e, hge⟩
    · exact .inl e
    · have := F04.size
      have h2 : w4.heap.size ≤ g' := hge
      exact .inr ⟨g', e, by omega⟩
end Go.Proofs.Ytkimldeagndgjaa

/- A book: what Add answers. -/
namespace Go.Proofs.Ytkimldeagndgjaa
set_option linter.unusedVariables false
set_option linter.unusedSimpArgs false
open Go.RowKit

theorem nd_v {A B : List Nat} {l q n e hs : Nat} {v v' : Value} (h : (A ++ (sideD l v q n e ++ B)).Nodup) (hlt : ∀ x ∈ A ++ (sideD l v q n e ++ B), x < hs) (hv : v'.ownBlock = v.ownBlock ∨ ∃ g, v'.ownBlock = some g ∧ hs ≤ g) :
    (A ++ (sideD l v' q n e ++ B)).Nodup ∧ ∀ x ∈ A ++ (sideD l v' q n e ++ B), x ∈ A ++ (sideD l v q n e ++ B) ∨ (hs ≤ x ∧ v'.ownBlock = some x) := by
  rcases hv with e1 | ⟨g, e1, hg⟩
  · have : sideD l v' q n e = sideD l v q n e := by unfold sideD; rw [e1]
    rw [this]; exact ⟨h, fun x hx => .inl hx⟩
  · have e2 : sideD l v' q n e = l :: q :: n :: e :: [g] := by unfold sideD; rw [e1]; rfl
    rw [e2]
    have hsub : (A ++ (l :: q :: n :: e :: B)).Sublist (A ++ (sideD l v q n e ++ B)) := by
      refine List.Sublist.append_left ?_ A
      unfold sideD
      simp only [List.cons_append]
      exact List.Sublist.cons_cons _ (List.Sublist.cons_cons _ (List.Sublist.cons_cons _ (List.Sublist.cons_cons _ (List.sublist_append_right _ _))))
    have hp : (A ++ (l :: q :: n :: e :: [g] ++ B)).Perm (g :: (A ++ (l :: q :: n :: e :: B))) := by
      have := List.perm_middle (a := g) (l₁ := A ++ [l, q, n, e]) (l₂ := B)
      simpa using this
    have hng : g ∉ A ++ (l :: q :: n :: e :: B) := fun hm => by have := hlt g (hsub.subset hm); omega
    refine ⟨hp.nodup_iff.2 (List.nodup_cons.2 ⟨hng, hsub.nodup h⟩), fun x hx => ?_⟩
    rcases List.mem_cons.1 (hp.mem_iff.1 hx) with e3 | e3
    · exact .inr ⟨by omega, by rw [e3]; exact e1⟩
    · exact .inl (hsub.subset e3)
theorem SideI.lts {w : World} {s : Int} {lp : Nat} {v : Value} {bq bn be N K : Nat} {T : List Nat} {ord : Nat → Ord} (h : SideI w s lp v bq bn be N K T ord) : ∀ g, v.ownBlock = some g → g < w.heap.size := by
  obtain ⟨u, n, f, Lq, hl, _⟩ := h.ex
  exact hl.lts

/-- What an op may make of a book. -/
def Makes (w : World) (b : Nat) (D : List Nat) (N K : Nat) (L : List Ord) (w' : World) : Prop := Fr D w w' ∧ ∃ D', BookI w' b D' N K L ∧ ∀ x ∈ D', x ∈ D ∨ w.heap.size ≤ x

section
variable {w : World} {b ba bi bs bm l0 q0 n0 e0 l1 q1 n1 e1 : Nat} {v0 v1 : Value} {N K : Nat} {fl : List Nat} {m : Nat → Option Ord} {ix : Int → Option Nat} {T : List Nat} {ord : Nat → Ord}
/-- The plain side of an addition. -/
theorem BookR.adds (h : BookR w b ba bi bs bm l0 q0 n0 e0 l1 q1 n1 e1 v0 v1 N K fl m ix T ord) {n : Nat} (hn : n ∉ T) (hnN : n < N) {o : Ord} (ho : Good o) (hid : ∀ x ∈ T.map ord, x.id ≠ o.id) :
    Times N (T ++ [n]) (updO ord n o) ∧ (∀ i, i ∈ T ++ [n] → updO m n (some o) i = some (updO ord n o i)) ∧ (∀ i, i ∉ T ++ [n] → updO m n (some o) i = none) ∧
    (∀ id s, updm ix o.id (some n) id = some s ↔ s ∈ T ++ [n] ∧ (updO ord n o s).id = id) ∧ (T ++ [n]).map (updO ord n o) = T.map ord ++ [o] := by
  refine ⟨⟨?_, ?_, ?_, h.t.N2⟩, ?_, ?_, ?_, ?_⟩
  · rw [List.nodup_append]
    exact ⟨h.t.nd, by simp, fun a ha c hc => by rw [List.mem_singleton.1 hc]; exact fun e => hn (e ▸ ha)⟩
  · intro i hi
    rcases List.mem_append.1 hi with hi | hi
    · exact h.t.lt i hi
    · rw [List.mem_singleton.1 hi]; exact hnN
  · intro i hi
    rcases List.mem_append.1 hi with hi | hi
    · rw [updO_ne (show i ≠ n from fun e => hn (e ▸ hi))]; exact h.t.good i hi
    · rw [List.mem_singleton.1 hi, updO_same]; exact ho
  · intro i hi
    rcases List.mem_append.1 hi with hi | hi
    · have e := show i ≠ n from fun e => hn (e ▸ hi)
      rw [updO_ne e, updO_ne e]; exact h.mt i hi
    · rw [List.mem_singleton.1 hi, updO_same, updO_same]
  · intro i hi
    have e1 : i ∉ T := fun hh => hi (by simp [hh])
    have e2 : i ≠ n := fun hh => hi (by simp [hh])
    rw [updO_ne e2]; exact h.mn i e1
  · intro id s
    unfold updm
    by_cases c : id = o.id
    · rw [if_pos c]
      constructor
      · intro e; injection e with e
        subst e
        exact ⟨by simp, by rw [updO_same, c]⟩
      · rintro ⟨h1, h2⟩
        rcases List.mem_append.1 h1 with h1 | h1
        · rw [updO_ne (show s ≠ n from fun e => hn (e ▸ h1))] at h2
          exact absurd (h2.trans c) (hid _ (List.mem_map.2 ⟨s, h1, rfl⟩))
        · rw [List.mem_singleton.1 h1]
    · rw [if_neg c, h.ids id s]
      constructor
      · rintro ⟨h1, h2⟩
        exact ⟨by simp [h1], by rw [updO_ne (show s ≠ n from fun e => hn (e ▸ h1))]; exact h2⟩
      · rintro ⟨h1, h2⟩
        rcases List.mem_append.1 h1 with h1 | h1
        · rw [updO_ne (show s ≠ n from fun e => hn (e ▸ h1))] at h2; exact ⟨h1, h2⟩
        · rw [List.mem_singleton.1 h1, updO_same] at h2; exact absurd h2.symm c
  · rw [List.map_append, List.map_singleton, updO_same]
    congr 1
    refine List.map_congr_left fun i hi => ?_
    rw [updO_ne (show i ≠ n from fun e => hn (e ▸ hi))]
end

set_option maxHeartbeats 2000000 in
theorem bookAdd_ok (w : World) (b : Nat) (D : List Nat) (N K : Nat) (L : List Ord) (h : BookI w b D N K L) (o : Ord) (ho : Good o) (hid : ∀ x ∈ L, x.id ≠ o.id) (hfit : FitsL o.sd o.pr L K) (hroom : L.length < N) :
    Calls Try.prog 23 #[.pointer (some ⟨b, 0, none⟩), .agg o.a] w fun e w' => e = .returned (.int .i64 0) ∧ Makes w b D N K (L ++ [o]) w' := by
  obtain ⟨ba, bi, bs, bm, l0, q0, n0, e0, l1, q1, n1, e1, v0, v1, fl, m, ix, T, ord, hr, rfl, rfl⟩ := h
  simp only [List.length_map] at hroom
  have hlen := hr.len
  have hp : In63 o.pr := by unfold In63; have := ho.pr; omega
  have hK := hr.K2
  have hix : ix o.id = none := by
    cases hh : ix o.id with
    | none => rfl
    | some s =>
      obtain ⟨h1, h2⟩ := (hr.ids o.id s).1 hh
      exact absurd h2 (hid _ (List.mem_map.2 ⟨s, h1, rfl⟩))
  cases fl with
  | nil => simp at hlen; omega
  | cons n fl =>
    obtain ⟨hnN, hmn⟩ := (hr.a.mem n).1 (by simp)
    have hnT : n ∉ T := fun hh => by rw [hr.mt n hh] at hmn; cases hmn
    obtain ⟨t', mt', mn', ids', map'⟩ := hr.adds hnT hnN ho hid
    have hlen' : (T ++ [n]).length + fl.length = N := by simp at hlen ⊢; omega
    have hRoom : ∀ W, Fr [] w W → Calls Try.prog 46 #[.pointer (some ⟨b, 0, none⟩), .int .i64 o.sd, .int .i64 o.pr] W fun e W' => e = .returned (.bool true) ∧ Fr [] W W' :=
      fun W hf => bkRoom W b ba bi bs bm l0 q0 n0 e0 l1 q1 n1 e1 v0 v1 N K (n :: fl) m ix T ord (hr.fr hf (by simp)) o.sd ho.sd o.pr hp true (by simp; exact ⟨hfit, hroom⟩)
    rcases ho.sd with hs | hs
    · refine (bkAdd_core w b ba bi bs bm l0 q0 n0 e0 1 v0 N K n fl m ix T ord 0 o _ hr.blk rfl rfl rfl rfl (fun W => by rw [hs]; exact of_side0 W b) hRoom hr.a hr.x hr.s0 hr.t (by omega) hnT ho hs hix (hs ▸ hfit) ?_ ?_).mono ?_
      · have := hr.nd; rw [← List.append_assoc] at this; exact (List.nodup_append.1 this).1
      · intro x hx; exact hr.lt x (by rw [← List.append_assoc]; exact List.mem_append_left _ hx)
      rintro e w' ⟨rfl, v', F, hv', A', X', S'⟩
      have hF : ∀ x ∈ ba :: bs :: bm :: sideD l0 v0 q0 n0 e0, x ∈ [b, ba, bi, bs, bm] ++ (sideD l0 v0 q0 n0 e0 ++ sideD l1 v1 q1 n1 e1) := by
        intro x hx
        simp only [List.mem_cons, List.mem_append, List.not_mem_nil, or_false] at hx ⊢
        rcases hx with e | e | e | e <;> simp [e]
      obtain ⟨nd', in'⟩ := nd_v (A := [b, ba, bi, bs, bm]) (B := sideD l1 v1 q1 n1 e1) hr.nd hr.lt hv'
      have hdis : ∀ x ∈ sideD l1 v1 q1 n1 e1, x ∉ ba :: bs :: bm :: sideD l0 v0 q0 n0 e0 := by
        intro x hx hm
        have h1 := List.nodup_append.1 hr.nd
        have h2 := List.nodup_append.1 h1.2.1
        simp only [List.mem_cons] at hm
        rcases hm with e | e | e | e
        · exact h1.2.2 ba (by simp) x (List.mem_append_right _ hx) e.symm
        · exact h1.2.2 bs (by simp) x (List.mem_append_right _ hx) e.symm
        · exact h1.2.2 bm (by simp) x (List.mem_append_right _ hx) e.symm
        · exact h2.2.2 x e x hx rfl
      have hb : b ∉ ba :: bs :: bm :: sideD l0 v0 q0 n0 e0 := by
        have h1 := hr.nd
        simp only [List.cons_append, List.nil_append, List.nodup_cons, List.mem_cons, List.mem_append, not_or] at h1
        simp only [List.mem_cons, not_or]
        exact ⟨h1.1.1, h1.1.2.2.1, h1.1.2.2.2.1, h1.1.2.2.2.2.1⟩
      have S1 : SideI w' 1 l1 v1 q1 n1 e1 N K T ord := hr.s1.fr F (hdis _ (by simp [sideD])) (fun g hg => hdis g (by simp [sideD, hg])) (hdis _ (by simp [sideD])) (hdis _ (by simp [sideD])) (hdis _ (by simp [sideD]))
      refine ⟨rfl, F.mono hF, _, ⟨ba, bi, bs, bm, l0, q0, n0, e0, l1, q1, n1, e1, v', v1, fl, _, _, _, _, ⟨Blk.via F hb hr.blk, A', by simpa using X', S', S1.skip hnT (by rw [hs]; decide), t', mt', mn', ids', hlen', hr.K1, hr.K2, nd', ?_⟩, rfl, map'.symm⟩, fun x hx => (in' x hx).imp_right (·.1)⟩
      intro x hx
      rcases in' x hx with h1 | ⟨_, h1⟩
      · exact Nat.lt_of_lt_of_le (hr.lt x h1) F.size
      · exact S'.lts x h1
    · refine (bkAdd_core w b ba bi bs bm l1 q1 n1 e1 3 v1 N K n fl m ix T ord 1 o _ hr.blk rfl rfl rfl rfl (fun W => by rw [hs]; exact of_side1 W b) hRoom hr.a hr.x hr.s1 hr.t (by omega) hnT ho hs hix (hs ▸ hfit) ?_ ?_).mono ?_
      · refine List.Sublist.nodup ?_ hr.nd
        exact List.Sublist.append_left (List.sublist_append_right _ _) _
      · intro x hx
        refine hr.lt x ?_
        rcases List.mem_append.1 hx with e | e
        · exact List.mem_append_left _ e
        · exact List.mem_append_right _ (List.mem_append_right _ e)
      rintro e w' ⟨rfl, v', F, hv', A', X', S'⟩
      have hF : ∀ x ∈ ba :: bs :: bm :: sideD l1 v1 q1 n1 e1, x ∈ [b, ba, bi, bs, bm] ++ (sideD l0 v0 q0 n0 e0 ++ sideD l1 v1 q1 n1 e1) := by
        intro x hx
        simp only [List.mem_cons, List.mem_append, List.not_mem_nil, or_false] at hx ⊢
        rcases hx with e | e | e | e <;> simp [e]
      have hnd2 : (([b, ba, bi, bs, bm] ++ sideD l0 v0 q0 n0 e0) ++ (sideD l1 v1 q1 n1 e1 ++ [])).Nodup := by
        have := hr.nd; simpa [List.append_assoc] using this
      have hlt2 : ∀ x ∈ ([b, ba, bi, bs, bm] ++ sideD l0 v0 q0 n0 e0) ++ (sideD l1 v1 q1 n1 e1 ++ []), x < w.heap.size := by
        intro x hx
        exact hr.lt x (by simpa [List.append_assoc] using hx)
      obtain ⟨nd', in'⟩ := nd_v (A := [b, ba, bi, bs, bm] ++ sideD l0 v0 q0 n0 e0) (B := []) hnd2 hlt2 hv'
      rw [List.append_nil, List.append_assoc] at nd'
      have in2 : ∀ x ∈ [b, ba, bi, bs, bm] ++ (sideD l0 v0 q0 n0 e0 ++ sideD l1 v' q1 n1 e1), x ∈ [b, ba, bi, bs, bm] ++ (sideD l0 v0 q0 n0 e0 ++ sideD l1 v1 q1 n1 e1) ∨ (w.heap.size ≤ x ∧ v'.ownBlock = some x) := by
        intro x hx
        have := in' x (by simpa [List.append_assoc] using hx)
        simpa [List.append_assoc] using this
      have hdis : ∀ x ∈ sideD l0 v0 q0 n0 e0, x ∉ ba :: bs :: bm :: sideD l1 v1 q1 n1 e1 := by
        intro x hx hm
        have h1 := List.nodup_append.1 hr.nd
        have h2 := List.nodup_append.1 h1.2.1
        simp only [List.mem_cons] at hm
        rcases hm with e | e | e | e
        · exact h1.2.2 ba (by simp) x (List.mem_append_left _ hx) e.symm
        · exact h1.2.2 bs (by simp) x (List.mem_append_left _ hx) e.symm
        · exact h1.2.2 bm (by simp) x (List.mem_append_left _ hx) e.symm
        · exact h2.2.2 x hx x e rfl
      have hb : b ∉ ba :: bs :: bm :: sideD l1 v1 q1 n1 e1 := by
        have h1 := hr.nd
        simp only [List.cons_append, List.nil_append, List.nodup_cons, List.mem_cons, List.mem_append, not_or] at h1
        simp only [List.mem_cons, not_or]
        exact ⟨h1.1.1, h1.1.2.2.1, h1.1.2.2.2.1, h1.1.2.2.2.2.2⟩
      have S0 : SideI w' 0 l0 v0 q0 n0 e0 N K T ord := hr.s0.fr F (hdis _ (by simp [sideD])) (fun g hg => hdis g (by simp [sideD, hg])) (hdis _ (by simp [sideD])) (hdis _ (by simp [sideD])) (hdis _ (by simp [sideD]))
      refine ⟨rfl, F.mono hF, _, ⟨ba, bi, bs, bm, l0, q0, n0, e0, l1, q1, n1, e1, v0, v', fl, _, _, _, _, ⟨Blk.via F hb hr.blk, A', by simpa using X', S0.skip hnT (by rw [hs]; decide), S', t', mt', mn', ids', hlen', hr.K1, hr.K2, nd', ?_⟩, rfl, map'.symm⟩, fun x hx => (in2 x hx).imp_right (·.1)⟩
      intro x hx
      rcases in2 x hx with h1 | ⟨_, h1⟩
      · exact Nat.lt_of_lt_of_le (hr.lt x h1) F.size
      · exact S'.lts x h1
end Go.Proofs.Ytkimldeagndgjaa

/- A book: what Add refuses. -/
namespace Go.Proofs.Ytkimldeagndgjaa
set_option linter.unusedVariables false
set_option linter.unusedSimpArgs false
open Go.RowKit

theorem bookAdd_nil (w : World) (o : Ord) : Calls Try.prog 23 #[.pointer none, .agg o.a] w fun e w' => e = .returned (.int .i64 1) ∧ Fr [] w w' := by
  go_enter Try.func23, Try.ntmps23
  go_wp2_with fail
  refine (of_side_nil _ _).mono ?_
  rintro e w1 ⟨rfl, rfl⟩
  go_wp2_with fail
  go_ret
  exact ⟨rfl, by with_reducible repeat (first | exact Fr.refl _ _ | assumption | apply Fr.drew | apply Fr.drewN | apply Fr.alloc | (apply Fr.step; assumption; (intro _ h; (first | exact h | (focus (simp_all; done))))) | (apply Fr.setIn; (first | exact List.mem_cons_self | exact List.mem_cons_of_mem _ List.mem_cons_self | exact List.mem_cons_of_mem _ (List.mem_cons_of_mem _ List.mem_cons_self) | exact List.mem_cons_of_mem _ (List.mem_cons_of_mem _ (List.mem_cons_of_mem _ List.mem_cons_self)))) | (apply Fr.setNew; (first | omega | (simp; omega))))⟩
theorem bookAdd_side (w : World) (b : Nat) (o : Ord) (h0 : o.sd ≠ 0) (h1 : o.sd ≠ 1) : Calls Try.prog 23 #[.pointer (some ⟨b, 0, none⟩), .agg o.a] w fun e w' => e = .returned (.int .i64 1) ∧ Fr [] w w' := by
  go_enter Try.func23, Try.ntmps23
  go_wp2_with fail
  refine (of_side_no _ _ _ h0 h1).mono ?_
  rintro e w1 ⟨rfl, rfl⟩
  go_wp2_with fail
  go_ret
  exact ⟨rfl, by with_reducible repeat (first | exact Fr.refl _ _ | assumption | apply Fr.drew | apply Fr.drewN | apply Fr.alloc | (apply Fr.step; assumption; (intro _ h; (first | exact h | (focus (simp_all; done))))) | (apply Fr.setIn; (first | exact List.mem_cons_self | exact List.mem_cons_of_mem _ List.mem_cons_self | exact List.mem_cons_of_mem _ (List.mem_cons_of_mem _ List.mem_cons_self) | exact List.mem_cons_of_mem _ (List.mem_cons_of_mem _ (List.mem_cons_of_mem _ List.mem_cons_self)))) | (apply Fr.setNew; (first | omega | (simp; omega))))⟩
theorem of_some (w : World) (b : Nat) (n : Int) (h : n = 0 ∨ n = 1) : Calls Try.prog 83 #[.pointer (some ⟨b, 0, none⟩), .int .i64 n] w fun e w' => (∃ so, e = .returned (.pointer (some ⟨b, so, none⟩))) ∧ w = w' := by
  rcases h with rfl | rfl
  · exact (of_side0 w b).mono fun _ _ ⟨a, c⟩ => ⟨⟨_, a⟩, c⟩
  · exact (of_side1 w b).mono fun _ _ ⟨a, c⟩ => ⟨⟨_, a⟩, c⟩
theorem bookAdd_range (w : World) (b : Nat) (o : Ord) (h : o.sd = 0 ∨ o.sd = 1) (hr : ¬ ((1 ≤ o.pr ∧ o.pr ≤ 1099511627776) ∧ (1 ≤ o.qt ∧ o.qt ≤ 4294967296))) : Calls Try.prog 23 #[.pointer (some ⟨b, 0, none⟩), .agg o.a] w fun e w' => e = .returned (.int .i64 9) ∧ Fr [] w w' := by
  have HO := Lib.hid (fun W => of_some W b o.sd h)
  clear h
  rcases (show o.pr < 1 ∨ (¬ o.pr < 1 ∧ 1099511627776 < o.pr) ∨ (¬ o.pr < 1 ∧ ¬ 1099511627776 < o.pr ∧ o.qt < 1) ∨ (¬ o.pr < 1 ∧ ¬ 1099511627776 < o.pr ∧ ¬ o.qt < 1 ∧ 4294967296 < o.qt) by omega) with a1 | ⟨a1, a2⟩ | ⟨a1, a2, a3⟩ | ⟨a1, a2, a3, a4⟩
  all_goals
    clear hr
    go_enter Try.func23, Try.ntmps23
    go_wp2_with fail
    refine (HO.out _).mono ?_
    rintro e w1 ⟨⟨so, rfl⟩, rfl⟩
    go_wp2_with fail
    go_ret
    exact ⟨rfl, by with_reducible repeat (first | exact Fr.refl _ _ | assumption | apply Fr.drew | apply Fr.drewN | apply Fr.alloc | (apply Fr.step; assumption; (intro _ h; (first | exact h | (focus (simp_all; done))))) | (apply Fr.setIn; (first | exact List.mem_cons_self | exact List.mem_cons_of_mem _ List.mem_cons_self | exact List.mem_cons_of_mem _ (List.mem_cons_of_mem _ List.mem_cons_self) | exact List.mem_cons_of_mem _ (List.mem_cons_of_mem _ (List.mem_cons_of_mem _ List.mem_cons_self)))) | (apply Fr.setNew; (first | omega | (simp; omega))))⟩

set_option maxHeartbeats 1000000 in
theorem bookAdd_twice (w : World) (b : Nat) (D : List Nat) (N K : Nat) (L : List Ord) (h : BookI w b D N K L) (o : Ord) (ho : Good o) (hid : ∃ x ∈ L, x.id = o.id) :
    Calls Try.prog 23 #[.pointer (some ⟨b, 0, none⟩), .agg o.a] w fun e w' => e = .returned (.int .i64 6) ∧ Fr [] w w' := by
  obtain ⟨ba, bi, bs, bm, l0, q0, n0, e0, l1, q1, n1, e1, v0, v1, fl, m, ix, T, ord, hr, rfl, rfl⟩ := h
  obtain ⟨s, hix⟩ : ∃ s, ix o.id = some s := by
    obtain ⟨x, hx, he⟩ := hid
    obtain ⟨i, hi, rfl⟩ := List.mem_map.1 hx
    exact ⟨i, (hr.ids o.id i).2 ⟨hi, he⟩⟩
  have HO := Lib.hid (fun W => of_some W b o.sd ho.sd)
  have HX := Lib.hid hr.x
  have HB := Lib.hid hr.blk
  have HID := Lib.hid hix
  have p1 : ¬ o.pr < 1 := by have := ho.pr; omega
  have p2 : ¬ 1099511627776 < o.pr := by have := ho.pr; omega
  have p3 : ¬ o.qt < 1 := by have := ho.qt; omega
  have p4 : ¬ 4294967296 < o.qt := by have := ho.qt; omega
  clear hr hix hid ho
  go_enter Try.func23, Try.ntmps23
  go_wp2_with fail
  refine calls_named (fun W0 hW => ?_)
  have B0 := Blk.box0 hW
  have F0 : Fr [] w W0 := Fr.eqv hW (by with_reducible repeat (first | exact Fr.refl _ _ | assumption | apply Fr.drew | apply Fr.drewN | apply Fr.alloc | (apply Fr.step; assumption; (intro _ h; (first | exact h | (focus (simp_all; done))))) | (apply Fr.setIn; (first | exact List.mem_cons_self | exact List.mem_cons_of_mem _ List.mem_cons_self | exact List.mem_cons_of_mem _ (List.mem_cons_of_mem _ List.mem_cons_self) | exact List.mem_cons_of_mem _ (List.mem_cons_of_mem _ (List.mem_cons_of_mem _ List.mem_cons_self)))) | (apply Fr.setNew; (first | omega | (simp; omega)))))
  have K0 := Blk.via F0 (by simp) HB.out
  clear hW
  refine (HO.out W0).mono ?_
  rintro e w1 ⟨⟨so, rfl⟩, rfl⟩
  have q0 := B0.cell
  go_wp2_with fail
  have HGet : Hid (∀ W, Fr [] W0 W → Calls Try.prog 84 #[.pointer (some ⟨bi, 0, none⟩), .agg #[.int .i64 0, .int .i64 o.id]] W fun e w' => e = .returned (.tuple #[.int .i64 s, .bool true]) ∧ Fr [] W w') := Lib.hid fun W hf => by
    have := ixGet_any W bi bs bm T.length ix (HX.out.fr (F0.trans hf) (by simp) (by simp) (by simp)) o.id
    rw [HID.out] at this
    exact this
  clear q0
  refine wp_region_soft (by kernel_rfl) (by kernel_rfl) ?_; (repeat (refine wpQuiet_step (fun K hK => ?_); (first | ((fail); go_simp; refine hK _ ?_; clear hK K) | (apply soft_do; (rfl); (focus (intro W hC; (have q2 := (Blk.via hC (by simp) B0).cell; have q5 := (Blk.via hC (by simp) K0).cell); go_simp; (first | (first | (go_at_call 85; refine (key_book _ _).mono ?_; rintro e w2 ⟨rfl, hf⟩; exact ⟨rfl, hC.trans hf⟩) | (go_at_call 84; refine (HGet.out _ hC).mono ?_; rintro e w2 ⟨rfl, hf⟩; exact ⟨rfl, hC.trans hf⟩)) | done | rfl | exact ⟨rfl, rfl⟩))); (go_simp; refine hK _ ?_; clear hK K)) | (apply soft_skip; (rfl); (go_simp; refine hK _ ?_; clear hK K))))); refine wpQuiet_nil ?_
  intro w2 F2
  go_wp2_with fail
  go_ret
  exact ⟨rfl, F0.trans F2⟩

set_option maxHeartbeats 1000000 in
theorem bookAdd_full (w : World) (b : Nat) (D : List Nat) (N K : Nat) (L : List Ord) (h : BookI w b D N K L) (o : Ord) (ho : Good o) (hid : ∀ x ∈ L, x.id ≠ o.id) (hfull : ¬ (FitsL o.sd o.pr L K ∧ L.length < N)) :
    Calls Try.prog 23 #[.pointer (some ⟨b, 0, none⟩), .agg o.a] w fun e w' => e = .returned (.int .i64 7) ∧ Fr [] w w' := by
  obtain ⟨ba, bi, bs, bm, l0, q0, n0, e0, l1, q1, n1, e1, v0, v1, fl, m, ix, T, ord, hr, rfl, rfl⟩ := h
  have hix : ix o.id = none := by
    cases hh : ix o.id with
    | none => rfl
    | some s =>
      obtain ⟨h1, h2⟩ := (hr.ids o.id s).1 hh
      exact absurd h2 (hid _ (List.mem_map.2 ⟨s, h1, rfl⟩))
  have hp : In63 o.pr := by unfold In63; have := ho.pr; omega
  have HR := Lib.hid (fun W (hf : Fr [] w W) => bkRoom W b ba bi bs bm l0 q0 n0 e0 l1 q1 n1 e1 v0 v1 N K fl m ix T ord (hr.fr hf (by simp)) o.sd ho.sd o.pr hp false (by simpa using hfull))
  have HO := Lib.hid (fun W => of_some W b o.sd ho.sd)
  have HX := Lib.hid hr.x
  have HB := Lib.hid hr.blk
  have HID := Lib.hid hix
  have p1 : ¬ o.pr < 1 := by have := ho.pr; omega
  have p2 : ¬ 1099511627776 < o.pr := by have := ho.pr; omega
  have p3 : ¬ o.qt < 1 := by have := ho.qt; omega
  have p4 : ¬ 4294967296 < o.qt := by have := ho.qt; omega
  clear hr hix hid ho hfull
  go_enter Try.func23, Try.ntmps23
  go_wp2_with fail
  refine calls_named (fun W0 hW => ?_)
  have B0 := Blk.box0 hW
  have F0 : Fr [] w W0 := Fr.eqv hW (by with_reducible repeat (first | exact Fr.refl _ _ | assumption | apply Fr.drew | apply Fr.drewN | apply Fr.alloc | (apply Fr.step; assumption; (intro _ h; (first | exact h | (focus (simp_all; done))))) | (apply Fr.setIn; (first | exact List.mem_cons_self | exact List.mem_cons_of_mem _ List.mem_cons_self | exact List.mem_cons_of_mem _ (List.mem_cons_of_mem _ List.mem_cons_self) | exact List.mem_cons_of_mem _ (List.mem_cons_of_mem _ (List.mem_cons_of_mem _ List.mem_cons_self)))) | (apply Fr.setNew; (first | omega | (simp; omega)))))
  have K0 := Blk.via F0 (by simp) HB.out
  clear hW
  refine (HO.out W0).mono ?_
  rintro e w1 ⟨⟨so, rfl⟩, rfl⟩
  have q0 := B0.cell
  go_wp2_with fail
  have HGet : Hid (∀ W, Fr [] W0 W → Calls Try.prog 84 #[.pointer (some ⟨bi, 0, none⟩), .agg #[.int .i64 0, .int .i64 o.id]] W fun e w' => e = .returned (.tuple #[.int .i64 0, .bool false]) ∧ Fr [] W w') := Lib.hid fun W hf => by
    have := ixGet_any W bi bs bm T.length ix (HX.out.fr (F0.trans hf) (by simp) (by simp) (by simp)) o.id
    rw [HID.out] at this
    exact this
  clear q0
  refine wp_region_soft (by kernel_rfl) (by kernel_rfl) ?_; (repeat (refine wpQuiet_step (fun K hK => ?_); (first | ((fail); go_simp; refine hK _ ?_; clear hK K) | (apply soft_do; (rfl); (focus (intro W hC; (have q2 := (Blk.via hC (by simp) B0).cell; have q5 := (Blk.via hC (by simp) K0).cell); go_simp; (first | (first | (go_at_call 85; refine (key_book _ _).mono ?_; rintro e w2 ⟨rfl, hf⟩; exact ⟨rfl, hC.trans hf⟩) | (go_at_call 84; refine (HGet.out _ hC).mono ?_; rintro e w2 ⟨rfl, hf⟩; exact ⟨rfl, hC.trans hf⟩)) | done | rfl | exact ⟨rfl, rfl⟩))); (go_simp; refine hK _ ?_; clear hK K)) | (apply soft_skip; (rfl); (go_simp; refine hK _ ?_; clear hK K))))); refine wpQuiet_nil ?_
  intro w2 F2
  have B2 := Blk.via F2 (by simp) B0
  have q2 := B2.cell
  go_wp2_with fail
  refine (HR.out w2 (F0.trans F2)).mono ?_
  rintro e w3 ⟨rfl, F3⟩
  go_wp2_with fail
  go_ret
  exact ⟨rfl, (F0.trans F2).trans F3⟩
end Go.Proofs.Ytkimldeagndgjaa

/- A book: New, walked. -/
namespace Go.Proofs.Ytkimldeagndgjaa
set_option linter.unusedVariables false
set_option linter.unusedSimpArgs false
open Go.RowKit

theorem bookNew_bad1 (w : World) (n k : Int) (h : n < 1 ∨ 500 < n) : Calls Try.prog 22 #[.int .i64 n, .int .i64 k] w fun e w' => e = .returned (.tuple #[.pointer none, .int .i64 9]) ∧ Fr [] w w' := by
  go_enter Try.func22, Try.ntmps22
  go_wp2_with fail
  refine (arNew_bad w n h).mono ?_
  rintro e w1 ⟨rfl, F1⟩
  go_wp2_with fail
  go_ret2
  exact ⟨rfl, F1⟩

set_option maxHeartbeats 1000000 in
theorem bookNew_ok (w : World) (N K : Nat) (h1 : 1 ≤ N) (h2 : N ≤ 500) (k1 : 1 ≤ K) (k2 : K ≤ 200) :
    Calls Try.prog 22 #[.int .i64 N, .int .i64 K] w fun e w' => ∃ b D, e = .returned (.tuple #[.pointer (some ⟨b, 0, none⟩), .int .i64 0]) ∧ Fr [] w w' ∧ BookI w' b D N K [] ∧ ∀ x ∈ D, w.heap.size ≤ x := by
  go_enter Try.func22, Try.ntmps22
  go_wp2_with fail
  refine (arNew_ok w N h1 h2).mono ?_
  rintro e w1 ⟨rfl, F1, A1⟩
  go_wp2_with fail
  refine (ixNew_any w1).mono ?_
  rintro e w2 ⟨rfl, F2, X2⟩
  go_wp2_with fail
  refine wp_name (fun W3 hW => ?_)
  have B3 := Blk.box0 hW
  have F3 : Fr [] w2 W3 := Fr.eqv hW (by with_reducible repeat (first | exact Fr.refl _ _ | assumption | apply Fr.drew | apply Fr.drewN | apply Fr.alloc | (apply Fr.step; assumption; (intro _ h; (first | exact h | (focus (simp_all; done))))) | (apply Fr.setIn; (first | exact List.mem_cons_self | exact List.mem_cons_of_mem _ List.mem_cons_self | exact List.mem_cons_of_mem _ (List.mem_cons_of_mem _ List.mem_cons_self) | exact List.mem_cons_of_mem _ (List.mem_cons_of_mem _ (List.mem_cons_of_mem _ List.mem_cons_self)))) | (apply Fr.setNew; (first | omega | (simp; omega)))))
  clear hW
  have c3 := B3.cell
  have f3 := B3.frozen
  have b3 := B3.lt
  refine wp_loop_rounds 3 ?_
  rw [rounds_succ]
  go_wp2_with fail
  refine (ladNew_yes W3 0 K (.inl rfl) ⟨by omega, by omega⟩).mono ?_
  rintro e w4 ⟨l0, hl0, rfl, F4, L0⟩
  have B4 := Blk.via F4 (by simp) B3
  clear c3 f3 b3
  go_wp2_with fail
  refine (new_yes w4 N K h1 h2 k1 (by omega)).mono ?_
  rintro e w5 ⟨q0, n0, e0, g1, g2, g3, rfl, F5, Q0⟩
  have B5 := Blk.via F5 (by simp) B4
  have c5 := B5.cell
  have f5 := B5.frozen
  have b5 := B5.lt
  go_wp2_with fail
  rw [rounds_succ]
  refine wp_name (fun W6 hW => ?_)
  have B6 := Blk.eqv hW ((B5.same 1 (.pointer (some ⟨l0, 0, none⟩))).same 2 (.pointer (some ⟨q0, 0, none⟩)))
  have F6 : Fr [w2.heap.size] w5 W6 := Fr.eqv hW (by with_reducible repeat (first | exact Fr.refl _ _ | assumption | apply Fr.drew | apply Fr.drewN | apply Fr.alloc | (apply Fr.step; assumption; (intro _ h; (first | exact h | (focus (simp_all; done))))) | (apply Fr.setIn; (first | exact List.mem_cons_self | exact List.mem_cons_of_mem _ List.mem_cons_self | exact List.mem_cons_of_mem _ (List.mem_cons_of_mem _ List.mem_cons_self) | exact List.mem_cons_of_mem _ (List.mem_cons_of_mem _ (List.mem_cons_of_mem _ List.mem_cons_self)))) | (apply Fr.setNew; (first | omega | (simp; omega)))))
  clear hW c5 f5 b5
  have HB6 := Lib.hid B6
  go_wp2_with fail
  refine (ladNew_yes W6 1 K (.inr rfl) ⟨by omega, by omega⟩).mono ?_
  rintro e w7 ⟨l1, hl1, rfl, F7, L1⟩
  have B7 := Blk.via F7 (by simp) B6
  go_wp2_with fail
  refine (new_yes w7 N K h1 h2 k1 (by omega)).mono ?_
  rintro e w8 ⟨q1, n1, e1, g4, g5, g6, rfl, F8, Q1⟩
  have B8 := Blk.via F8 (by simp) B7
  have c8 := B8.cell
  have f8 := B8.frozen
  have b8 := B8.lt
  go_wp2_with fail
  rw [rounds_succ]
  refine wp_name (fun W9 hW => ?_)
  have B9 := Blk.eqv hW ((B8.same 3 (.pointer (some ⟨l1, 0, none⟩))).same 4 (.pointer (some ⟨q1, 0, none⟩)))
  have F9 : Fr [w2.heap.size] w8 W9 := Fr.eqv hW (by with_reducible repeat (first | exact Fr.refl _ _ | assumption | apply Fr.drew | apply Fr.drewN | apply Fr.alloc | (apply Fr.step; assumption; (intro _ h; (first | exact h | (focus (simp_all; done))))) | (apply Fr.setIn; (first | exact List.mem_cons_self | exact List.mem_cons_of_mem _ List.mem_cons_self | exact List.mem_cons_of_mem _ (List.mem_cons_of_mem _ List.mem_cons_self) | exact List.mem_cons_of_mem _ (List.mem_cons_of_mem _ (List.mem_cons_of_mem _ List.mem_cons_self)))) | (apply Fr.setNew; (first | omega | (simp; omega)))))
  clear hW c8 f8 b8
  go_wp2_with fail
  go_ret2
  obtain ⟨_, _, ab, _⟩ := A1.b
  have z0 := Blk.lt ab
  have z1 := X2.i.lt
  have z3 := B3.lt
  have z4 := L0.b.lt
  have z5 : q0 < w5.heap.size ∧ n0 < w5.heap.size ∧ e0 < w5.heap.size ∧ q0 ≠ n0 ∧ q0 ≠ e0 ∧ n0 ≠ e0 := by
    obtain ⟨nd, en, r, _⟩ := Q0
    exact ⟨r.q.lt, r.n.lt, r.e.lt, r.ne1, r.ne2, r.ne3⟩
  have z7 := L1.b.lt
  have z8 : q1 < w8.heap.size ∧ n1 < w8.heap.size ∧ e1 < w8.heap.size ∧ q1 ≠ n1 ∧ q1 ≠ e1 ∧ n1 ≠ e1 := by
    obtain ⟨nd, en, r, _⟩ := Q1
    exact ⟨r.q.lt, r.n.lt, r.e.lt, r.ne1, r.ne2, r.ne3⟩
  have s1 := F1.size
  have s2 := F2.size
  have s3 := F3.size
  have s4 := F4.size
  have s5 := F5.size
  have s6 := F6.size
  have s7 := F7.size
  have s8 := F8.size
  have s9 := F9.size
  have lad : ∀ (W : World) (lp : Nat) (s : Int), LadR W lp s K (.slice none 0 0) (fun _ => 0) 0 (fun _ => ⟨0, 0, 0, 0⟩) → LadI W lp s K (.slice none 0 0) (fun _ => 0) 0 (fun _ => ⟨0, 0, 0, 0⟩) := fun W lp s h =>
    ⟨h, fun _ _ => by simp, fun q hq => by simp [usedB], fun i hi => by omega, fun i hi => by omega, fun i hi => by omega, fun i j hi => by omega, by simp [Value.ownBlock]⟩
  have side : ∀ (W : World) (s : Int) (lp bq bn be : Nat), LadR W lp s K (.slice none 0 0) (fun _ => 0) 0 (fun _ => ⟨0, 0, 0, 0⟩) → AbsQ W bq bn be N K (fun _ => []) → SideI W s lp (.slice none 0 0) bq bn be N K [] (fun _ => ord0) := fun W s lp bq bn be hl hq =>
    ⟨_, 0, _, _, lad W lp s hl, hq, fun j hj => by omega, fun i hi => (by cases hi), fun _ _ _ => rfl⟩
  have G5 : Fr [w2.heap.size] w5 W9 := ((F6.trans (F7.mono (by simp))).trans (F8.mono (by simp))).trans F9
  have G2 : Fr [w2.heap.size] w2 W9 := (((F3.mono (by simp)).trans (F4.mono (by simp))).trans (F5.mono (by simp))).trans G5
  have G8 : Fr [w2.heap.size] w8 W9 := F9
  refine ⟨w2.heap.size, _, rfl, ?_, ⟨w.heap.size, w1.heap.size + 2, w1.heap.size, w1.heap.size + 1, l0, q0, n0, e0, l1, q1, n1, e1, .slice none 0 0, .slice none 0 0, List.range' 0 N, fun _ => none, fun _ => none, [], fun _ => ord0, ?_, rfl, rfl⟩, ?_⟩
  · exact ⟨(G2.os.trans F2.os).trans F1.os, (G2.tape.trans F2.tape).trans F1.tape, (G2.output.trans F2.output).trans F1.output, by omega, fun k hk _ => (G2.block k (by omega) (by simp; omega)).trans ((F2.block k (by omega) (by simp)).trans (F1.block k hk (by simp)))⟩
  · refine ⟨B9.cast rfl, (A1.fr F2 (by simp)).fr G2 (by simp; omega), X2.fr G2 (by simp; omega) (by simp; omega) (by simp; omega), ?_, ?_, ⟨by simp, by simp, by simp, h2⟩, by simp, fun _ _ => rfl, by simp, by simp, k1, k2, ?_, ?_⟩
    · exact side W9 0 l0 q0 n0 e0 ((L0.fr F5 (by simp) (by simp [Value.ownBlock])).fr G5 (by simp; omega) (by simp [Value.ownBlock])) (Q0.fr G5 (by simp; omega) (by simp; omega) (by simp; omega))
    · exact side W9 1 l1 q1 n1 e1 ((L1.fr F8 (by simp) (by simp [Value.ownBlock])).fr G8 (by simp; omega) (by simp [Value.ownBlock])) (Q1.fr G8 (by simp; omega) (by simp; omega) (by simp; omega))
    · simp [sideD, Value.ownBlock]
      omega
    · intro x hx
      simp [sideD, Value.ownBlock] at hx
      omega
  · intro x hx
    simp [sideD, Value.ownBlock] at hx
    omega
end Go.Proofs.Ytkimldeagndgjaa

/- A book: the first order of a side, and what a side is worth, walked. -/
namespace Go.Proofs.Ytkimldeagndgjaa
set_option linter.unusedVariables false
set_option linter.unusedSimpArgs false
open Go.RowKit

/-- A side's orders in its order: by price, then by time. -/
def OfL (s : Int) (L Y : List Ord) : Prop := Y.Pairwise (fun a b => keyI s a.pr ≤ keyI s b.pr) ∧ ∀ p, Y.filter (fun a => decide (a.pr = p)) = L.filter (fun a => decide (a.sd = s ∧ a.pr = p))
theorem OfL.unique {s : Int} {L X Y : List Ord} (h : OfL s L X) (k : OfL s L Y) : X = Y := sorted_unique (cls := fun a : Ord => a.pr) h.1 k.1 fun p => (h.2 p).trans (k.2 p).symm
theorem SlotsOf.ofL {s : Int} {T : List Nat} {ord : Nat → Ord} {X : List Nat} (h : SlotsOf s T ord X) : OfL s (T.map ord) (X.map ord) := by
  refine ⟨List.pairwise_map.2 h.1, fun p => ?_⟩
  rw [List.filter_map, List.filter_map]
  have := h.2 p
  unfold onL at this
  exact congrArg (List.map ord) this
theorem SideI.slots {w : World} {s : Int} {lp : Nat} {v : Value} {bq bn be N K : Nat} {T : List Nat} {ord : Nat → Ord} (h : SideI w s lp v bq bn be N K T ord) : ∃ X, SlotsOf s T ord X := by
  obtain ⟨u, n, f, Lq, hl, hq, hlev, hhas, hrest⟩ := h.ex
  exact ⟨_, slots_lev hl hhas⟩

theorem wpList_storeO {ops : Array Oper} {rest : List Oper} {p : Oper} {a : Act} {w : World} {Q : Exit → Act → World → Prop} (hgd : p.guard = none) (x y : Operand) (hp : p.op = .store 43 x y)
    (g : Nat) (old : Array Value) (o : Ord) (hx : a.eval x = .pointer (some ⟨g, 0, none⟩)) (hy : a.eval y = .agg o.a) (B : Blk w g 43 old) (h1 : old.size = 7)
    (h : ∀ w', Blk w' g 43 o.a → Fr [g] w w' → wpList Try.prog ops Q rest (a.put p.dst undef) w') : wpList Try.prog ops Q (p :: rest) a w :=
  wpList_store_row hgd _ x y hp g _ hx hy _ _ B info_ord (by rw [h1]; rfl) (by simp [Value.oneCell'])
    (h _ (setRow_heap w g _ _ _ _ B) ⟨rfl, rfl, rfl, by simp [World.setRow], fun k _ hk => setRow_other w g k _ (fun e => hk (by simp [e]))⟩)
theorem wpList_loadO {ops : Array Oper} {rest : List Oper} {p : Oper} {a : Act} {w : World} {Q : Exit → Act → World → Prop} (hgd : p.guard = none) (x : Operand) (hp : p.op = .load 43 x)
    (g : Nat) (o : Ord) (hx : a.eval x = .pointer (some ⟨g, 0, none⟩)) (B : Blk w g 43 o.a) (h : wpList Try.prog ops Q rest (a.put p.dst (.agg o.a)) w) : wpList Try.prog ops Q (p :: rest) a w :=
  wpList_load_row hgd _ x hp g hx _ _ (0, 0) _ B Try.underlying43 rfl info_ord h
theorem fr_fresh2 {w w' w'' : World} {g : Nat} (hg : w.heap.size ≤ g) (h : Fr [] w w') (k : Fr [g] w' w'') : Fr [] w w'' :=
  ⟨k.os.trans h.os, k.tape.trans h.tape, k.output.trans h.output, Nat.le_trans h.size k.size, fun i hi _ => (k.block i (Nat.lt_of_lt_of_le hi h.size) (by simp; omega)).trans (h.block i hi (by simp))⟩
section
variable (w : World) (b ba lp bq bn be so : Nat) (v : Value) (N K : Nat) (fl : List Nat) (m : Nat → Option Ord) (T : List Nat) (ord : Nat → Ord) (s : Int) (bc : Array Value)
theorem bkFront_no (hbk : Blk w b 139 bc) (hb1 : bc[so]? = some (.pointer (some ⟨lp, 0, none⟩)))
    (hof : ∀ W, Calls Try.prog 83 #[.pointer (some ⟨b, 0, none⟩), .int .i64 s] W fun e W' => e = .returned (.pointer (some ⟨b, so, none⟩)) ∧ W = W')
    (hs : SideI w s lp v bq bn be N K T ord) (hX : SlotsOf s T ord []) :
    Calls Try.prog 30 #[.pointer (some ⟨b, 0, none⟩), .int .i64 s] w fun e w' => e = .returned (.tuple #[.agg ord0.a, .bool false]) ∧ Fr [] w w' := by
  have HB := Lib.hid (fun W (hf : Fr [] w W) => side_best_no W s lp v bq bn be N K T ord (hs.fr hf (by simp) (by simp) (by simp) (by simp) (by simp)) hX)
  have HO := Lib.hid hof
  clear hs hX hof
  go_enter Try.func30, Try.ntmps30
  go_wp2_with fail
  refine calls_named (fun W0 hW => ?_)
  have B0 := Blk.box0 hW
  have F0 : Fr [] w W0 := Fr.eqv hW (by with_reducible repeat (first | exact Fr.refl _ _ | assumption | apply Fr.drew | apply Fr.drewN | apply Fr.alloc | (apply Fr.step; assumption; (intro _ h; (first | exact h | (focus (simp_all; done))))) | (apply Fr.setIn; (first | exact List.mem_cons_self | exact List.mem_cons_of_mem _ List.mem_cons_self | exact List.mem_cons_of_mem _ (List.mem_cons_of_mem _ List.mem_cons_self) | exact List.mem_cons_of_mem _ (List.mem_cons_of_mem _ (List.mem_cons_of_mem _ List.mem_cons_self)))) | (apply Fr.setNew; (first | omega | (simp; omega)))))
  have K0 := Blk.via F0 (by simp) hbk
  clear hW
  refine (HO.out W0).mono ?_
  rintro e w1 ⟨rfl, rfl⟩
  have q1 := (K0.cell so).trans hb1
  go_wp2_with fail
  refine (HB.out W0 F0).mono ?_
  rintro e w2 ⟨rfl, F2⟩
  have B2 := Blk.via F2 (by simp) B0
  unfold lvV
  clear q1
  go_wp2_with (first
    | (refine wpList_storeO rfl (.tmp 4) (.tmp 26) rfl w.heap.size _ ord0 rfl rfl (B2.alloc _) rfl ?_
       intro w3 B3 F3)
    | (refine wpList_loadO rfl (.tmp 4) rfl w.heap.size ord0 rfl (B2.alloc _) ?_))
  have c3 := B3.cell
  exact bodyPost_ret (v := .tuple #[.agg ord0.a, .bool false]) (by simp [results, Try.results30, go_sem, c3]) rfl ⟨rfl, fr_fresh2 (Nat.le_refl _) ((F0.trans F2).alloc _) F3⟩
set_option maxHeartbeats 1000000 in
theorem bkFront_core (i : Nat) (r : List Nat) (hbk : Blk w b 139 bc) (hb0 : bc[0]? = some (.pointer (some ⟨ba, 0, none⟩))) (hb1 : bc[so]? = some (.pointer (some ⟨lp, 0, none⟩))) (hb2 : bc[so + 1]? = some (.pointer (some ⟨bq, 0, none⟩)))
    (hof : ∀ W, Calls Try.prog 83 #[.pointer (some ⟨b, 0, none⟩), .int .i64 s] W fun e W' => e = .returned (.pointer (some ⟨b, so, none⟩)) ∧ W = W')
    (ha : ArI w ba N fl m) (hm : m i = some (ord i)) (hs : SideI w s lp v bq bn be N K T ord) (hX : SlotsOf s T ord (i :: r)) :
    Calls Try.prog 30 #[.pointer (some ⟨b, 0, none⟩), .int .i64 s] w fun e w' => e = .returned (.tuple #[.agg (ord i).a, .bool true]) ∧ Fr [] w w' := by
  have HB := Lib.hid (fun W (hf : Fr [] w W) => side_best W s lp v bq bn be N K T ord (hs.fr hf (by simp) (by simp) (by simp) (by simp) (by simp)) i r hX)
  have HG := Lib.hid (fun W (hf : Fr [] w W) => arGet_has W ba N i fl m (ha.fr hf (by simp)) (ord i) hm)
  have HO := Lib.hid hof
  clear hs hX hof ha hm
  go_enter Try.func30, Try.ntmps30
  go_wp2_with fail
  refine calls_named (fun W0 hW => ?_)
  have B0 := Blk.box0 hW
  have F0 : Fr [] w W0 := Fr.eqv hW (by with_reducible repeat (first | exact Fr.refl _ _ | assumption | apply Fr.drew | apply Fr.drewN | apply Fr.alloc | (apply Fr.step; assumption; (intro _ h; (first | exact h | (focus (simp_all; done))))) | (apply Fr.setIn; (first | exact List.mem_cons_self | exact List.mem_cons_of_mem _ List.mem_cons_self | exact List.mem_cons_of_mem _ (List.mem_cons_of_mem _ List.mem_cons_self) | exact List.mem_cons_of_mem _ (List.mem_cons_of_mem _ (List.mem_cons_of_mem _ List.mem_cons_self)))) | (apply Fr.setNew; (first | omega | (simp; omega)))))
  have K0 := Blk.via F0 (by simp) hbk
  clear hW
  refine (HO.out W0).mono ?_
  rintro e w1 ⟨rfl, rfl⟩
  have q1 := (K0.cell so).trans hb1
  go_wp2_with fail
  refine (HB.out W0 F0).mono ?_
  rintro e w2 ⟨x, k, rfl, F2, hxp, hxk, hkK, hfr⟩
  have HFR := Lib.hid hfr
  have HXK := Lib.hid hxk
  clear hfr hxk q1
  have B2 := Blk.via F2 (by simp) B0
  have K2 := Blk.via F2 (by simp) K0
  unfold lvV
  go_wp2_with fail
  refine wp_name (fun W3 hW => ?_)
  have X3 := Blk.box0 hW
  have F3 : Fr [] w2 W3 := Fr.eqv hW (by with_reducible repeat (first | exact Fr.refl _ _ | assumption | apply Fr.drew | apply Fr.drewN | apply Fr.alloc | (apply Fr.step; assumption; (intro _ h; (first | exact h | (focus (simp_all; done))))) | (apply Fr.setIn; (first | exact List.mem_cons_self | exact List.mem_cons_of_mem _ List.mem_cons_self | exact List.mem_cons_of_mem _ (List.mem_cons_of_mem _ List.mem_cons_self) | exact List.mem_cons_of_mem _ (List.mem_cons_of_mem _ (List.mem_cons_of_mem _ List.mem_cons_self)))) | (apply Fr.setNew; (first | omega | (simp; omega)))))
  have B3 := Blk.via F3 (by simp) B2
  have K3 := Blk.via F3 (by simp) K2
  clear hW B2 K2 B0 K0
  have F03 := (F0.trans F2).trans F3
  have HQ : Hid (∀ W, Fr [] W3 W → Calls Try.prog 94 #[.pointer (some ⟨bq, 0, none⟩), .int .i64 k] W fun e W' => e = .returned (.tuple #[.int .i64 i, .bool true]) ∧ Fr [] W W') :=
    Lib.hid fun W hf => HFR.out W ((F2.trans F3).trans hf)
  refine wp_region_soft (by kernel_rfl) (by kernel_rfl) ?_; (repeat (refine wpQuiet_step (fun K hK => ?_); (first | ((fail); go_simp; refine hK _ ?_; clear hK K) | (apply soft_do; (rfl); (focus (intro W hC; (have q2 := ((Blk.via hC (by simp) K3).cell (so + 1)).trans hb2; have q5 := ((Blk.via hC (by simp) X3).cell 3).trans (show _ = some (Value.int .i64 k) by rw [HXK.out]; rfl)); go_simp; (first | (first | (go_at_call 94; refine (HQ.out _ hC).mono ?_; rintro e w2 ⟨rfl, hf⟩; exact ⟨rfl, hC.trans hf⟩)) | done | rfl | exact ⟨rfl, rfl⟩))); (go_simp; refine hK _ ?_; clear hK K)) | (apply soft_skip; (rfl); (go_simp; refine hK _ ?_; clear hK K))))); refine wpQuiet_nil ?_
  intro w4 F4
  have B4 := Blk.via F4 (by simp) B3
  have q0 := ((Blk.via F4 (by simp) K3).cell 0).trans hb0
  go_wp2_with fail
  refine (HG.out w4 (F03.trans F4)).mono ?_
  rintro e w5 ⟨rfl, F5⟩
  have B5 := Blk.via F5 (by simp) B4
  go_wp2_with (refine wpList_storeO rfl (.tmp 4) (.tmp 43) rfl w.heap.size _ (ord i) rfl rfl B5 rfl ?_
               intro w6 B6 F6)
  have c6 := B6.cell
  exact bodyPost_ret (v := .tuple #[.agg (ord i).a, .bool true]) (by simp [results, Try.results30, go_sem, c6]) rfl ⟨rfl, fr_fresh2 (Nat.le_refl _) ((F03.trans F4).trans F5) F6⟩
end
end Go.Proofs.Ytkimldeagndgjaa

/- A book: Front, Worth, Best by the list of its orders. -/
namespace Go.Proofs.Ytkimldeagndgjaa
set_option linter.unusedVariables false
set_option linter.unusedSimpArgs false
open Go.RowKit

def sumO (l : List Ord) : Int := (l.map (·.qt)).sum
theorem sumS_sumO (ord : Nat → Ord) (l : List Nat) : sumS ord l = sumO (l.map ord) := by unfold sumS sumO; rw [List.map_map]; rfl

theorem bookFront_no (w : World) (b : Nat) (D : List Nat) (N K : Nat) (L : List Ord) (h : BookI w b D N K L) (s : Int) (hs : s = 0 ∨ s = 1) (hY : OfL s L []) :
    Calls Try.prog 30 #[.pointer (some ⟨b, 0, none⟩), .int .i64 s] w fun e w' => e = .returned (.tuple #[.agg ord0.a, .bool false]) ∧ Fr [] w w' := by
  obtain ⟨ba, bi, bs, bm, l0, q0, n0, e0, l1, q1, n1, e1, v0, v1, fl, m, ix, T, ord, hr, rfl, rfl⟩ := h
  rcases hs with rfl | rfl
  · obtain ⟨X, hX⟩ := hr.s0.slots
    have hn : X = [] := List.map_eq_nil_iff.1 (hX.ofL.unique hY)
    subst hn
    exact bkFront_no w b l0 q0 n0 e0 1 v0 N K T ord 0 _ hr.blk rfl (fun W => of_side0 W b) hr.s0 hX
  · obtain ⟨X, hX⟩ := hr.s1.slots
    have hn : X = [] := List.map_eq_nil_iff.1 (hX.ofL.unique hY)
    subst hn
    exact bkFront_no w b l1 q1 n1 e1 3 v1 N K T ord 1 _ hr.blk rfl (fun W => of_side1 W b) hr.s1 hX
theorem bookFront (w : World) (b : Nat) (D : List Nat) (N K : Nat) (L : List Ord) (h : BookI w b D N K L) (s : Int) (hs : s = 0 ∨ s = 1) (o : Ord) (Y : List Ord) (hY : OfL s L (o :: Y)) :
    Calls Try.prog 30 #[.pointer (some ⟨b, 0, none⟩), .int .i64 s] w fun e w' => e = .returned (.tuple #[.agg o.a, .bool true]) ∧ Fr [] w w' := by
  obtain ⟨ba, bi, bs, bm, l0, q0, n0, e0, l1, q1, n1, e1, v0, v1, fl, m, ix, T, ord, hr, rfl, rfl⟩ := h
  rcases hs with rfl | rfl
  · obtain ⟨X, hX⟩ := hr.s0.slots
    obtain ⟨i, r, rfl, rfl, _⟩ := List.map_eq_cons_iff.1 (hX.ofL.unique hY)
    exact bkFront_core w b ba l0 q0 n0 e0 1 v0 N K fl m T ord 0 _ i r hr.blk rfl rfl rfl (fun W => of_side0 W b) hr.a (hr.mt i (hX.mem.1 (by simp)).1) hr.s0 hX
  · obtain ⟨X, hX⟩ := hr.s1.slots
    obtain ⟨i, r, rfl, rfl, _⟩ := List.map_eq_cons_iff.1 (hX.ofL.unique hY)
    exact bkFront_core w b ba l1 q1 n1 e1 3 v1 N K fl m T ord 1 _ i r hr.blk rfl rfl rfl (fun W => of_side1 W b) hr.a (hr.mt i (hX.mem.1 (by simp)).1) hr.s1 hX

theorem bookWorth (w : World) (b : Nat) (D : List Nat) (N K : Nat) (L : List Ord) (h : BookI w b D N K L) (s : Int) (hs : s = 0 ∨ s = 1) (Y : List Ord) (hY : OfL s L Y) (lim : Int) (hl : In63 lim) :
    Calls Try.prog 45 #[.pointer (some ⟨b, 0, none⟩), .int .i64 s, .int .i64 lim] w fun e w' => e = .returned (.int .i64 (sumO (Y.filter fun a => decide (¬ keyI s lim < keyI s a.pr)))) ∧ Fr [] w w' := by
  obtain ⟨ba, bi, bs, bm, l0, q0, n0, e0, l1, q1, n1, e1, v0, v1, fl, m, ix, T, ord, hr, rfl, rfl⟩ := h
  have key : ∀ X : List Nat, X.map ord = Y → sumS ord (X.filter fun a => decide (¬ keyI s lim < keyI s (ord a).pr)) = sumO (Y.filter fun a => decide (¬ keyI s lim < keyI s a.pr)) := by
    intro X hX
    rw [sumS_sumO, ← hX, List.filter_map]; rfl
  rcases hs with rfl | rfl
  · obtain ⟨X, hX⟩ := hr.s0.slots
    have hw := Lib.hid (side_worth w 0 l0 v0 q0 n0 e0 N K T ord hr.s0 hr.t X hX lim hl)
    have c1 := hr.blk.cell 1
    rw [← key X (hX.ofL.unique hY)]
    generalize sumS ord (X.filter fun a => decide (¬ keyI 0 lim < keyI 0 (ord a).pr)) = z at hw ⊢
    clear hr hX hY key
    go_enter Try.func45, Try.ntmps45
    go_wp2_with fail
    refine (of_side0 _ b).mono ?_
    rintro e w1 ⟨rfl, rfl⟩
    go_wp2_with fail
    refine hw.out.mono ?_
    rintro e w1 ⟨rfl, F1⟩
    go_wp2_with fail
    go_ret
    exact ⟨rfl, F1⟩
  · obtain ⟨X, hX⟩ := hr.s1.slots
    have hw := Lib.hid (side_worth w 1 l1 v1 q1 n1 e1 N K T ord hr.s1 hr.t X hX lim hl)
    have c1 := hr.blk.cell 3
    rw [← key X (hX.ofL.unique hY)]
    generalize sumS ord (X.filter fun a => decide (¬ keyI 1 lim < keyI 1 (ord a).pr)) = z at hw ⊢
    clear hr hX hY key
    go_enter Try.func45, Try.ntmps45
    go_wp2_with fail
    refine (of_side1 _ b).mono ?_
    rintro e w1 ⟨rfl, rfl⟩
    go_wp2_with fail
    refine hw.out.mono ?_
    rintro e w1 ⟨rfl, F1⟩
    go_wp2_with fail
    go_ret
    exact ⟨rfl, F1⟩
end Go.Proofs.Ytkimldeagndgjaa

/- A book's example, walked. -/
namespace Go.Proofs.Ytkimldeagndgjaa
set_option linter.unusedVariables false
set_option linter.unusedSimpArgs false
open Go.RowKit

theorem fr_newD {w a c : World} {D : List Nat} (hD : ∀ x ∈ D, w.heap.size ≤ x) (h : Fr [] w a) (k : Fr D a c) : Fr [] w c :=
  ⟨k.os.trans h.os, k.tape.trans h.tape, k.output.trans h.output, Nat.le_trans h.size k.size, fun i hi _ => (k.block i (Nat.lt_of_lt_of_le hi h.size) (fun hm => by have := hD i hm; omega)).trans (h.block i hi (by simp))⟩
/-- A book that lies wholly in new blocks. -/
def NewBook (w0 w : World) (b N K : Nat) (L : List Ord) : Prop := Fr [] w0 w ∧ ∃ D, BookI w b D N K L ∧ ∀ x ∈ D, w0.heap.size ≤ x
theorem NewBook.fr {w0 w W : World} {b N K : Nat} {L : List Ord} (h : NewBook w0 w b N K L) (hf : Fr [] w W) : NewBook w0 W b N K L := by
  obtain ⟨F, D, hB, hD⟩ := h
  exact ⟨F.trans hf, D, hB.fr hf (by simp), hD⟩
theorem newBook_new (w : World) (N K : Nat) (h1 : 1 ≤ N) (h2 : N ≤ 500) (k1 : 1 ≤ K) (k2 : K ≤ 200) :
    Calls Try.prog 22 #[.int .i64 N, .int .i64 K] w fun e w' => ∃ b, e = .returned (.tuple #[.pointer (some ⟨b, 0, none⟩), .int .i64 0]) ∧ NewBook w w' b N K [] :=
  (bookNew_ok w N K h1 h2 k1 k2).mono fun _ _ ⟨b, D, h1, h2, h3, h4⟩ => ⟨b, h1, h2, D, h3, h4⟩
theorem newBook_add {w0 w : World} {b N K : Nat} {L : List Ord} (h : NewBook w0 w b N K L) (o : Ord) (ho : Good o) (hid : ∀ x ∈ L, x.id ≠ o.id) (hfit : FitsL o.sd o.pr L K) (hroom : L.length < N) :
    Calls Try.prog 23 #[.pointer (some ⟨b, 0, none⟩), .agg o.a] w fun e w' => e = .returned (.int .i64 0) ∧ NewBook w0 w' b N K (L ++ [o]) := by
  obtain ⟨F, D, hB, hD⟩ := h
  refine (bookAdd_ok w b D N K L hB o ho hid hfit hroom).mono ?_
  rintro e w' ⟨he, F', D', hB', hD'⟩
  have s := F.size
  exact ⟨he, fr_newD hD F F', D', hB', fun x hx => by rcases hD' x hx with h | h; exact hD x h; omega⟩

def ex1 : Ord := ⟨1, 0, 0, 10, 1, 0, 0⟩
def ex2 : Ord := ⟨2, 0, 0, 12, 1, 0, 0⟩
def ex3 : Ord := ⟨3, 0, 0, 12, 1, 0, 0⟩
theorem good1 : Good ex1 := ⟨.inl rfl, by decide, by decide⟩
theorem good2 : Good ex2 := ⟨.inl rfl, by decide, by decide⟩
theorem good3 : Good ex3 := ⟨.inl rfl, by decide, by decide⟩
theorem ex_of : OfL 0 [ex1, ex2, ex3] [ex2, ex3, ex1] := by
  refine ⟨by simp [ex1, ex2, ex3, keyI], fun p => ?_⟩
  by_cases c : (12 : Int) = p
  · subst c; simp [ex1, ex2, ex3]
  · by_cases d : (10 : Int) = p
    · subst d; simp [ex1, ex2, ex3]
    · simp [ex1, ex2, ex3, c, d]
theorem fits1 : FitsL ex1.sd ex1.pr [] 3 := .inr ⟨[], by simp, by simp, by simp⟩
theorem fits2 : FitsL ex2.sd ex2.pr [ex1] 3 := .inr ⟨[10], by simp, fun q => by simp [ex1, ex2, eq_comm], by simp⟩
theorem fits3 : FitsL ex3.sd ex3.pr [ex1, ex2] 3 := .inl ⟨ex2, by simp, rfl, rfl⟩

set_option maxHeartbeats 1000000 in
theorem bookAlive_any (w : World) : Calls Try.prog 28 #[] w fun e w' => e = .returned (.bool true) ∧ Fr [] w w' := by
  go_enter Try.func28, Try.ntmps28
  go_wp2_with fail
  refine (newBook_new w 5 3 (by omega) (by omega) (by omega) (by omega)).mono ?_
  rintro e w1 ⟨b, rfl, N1⟩
  go_wp2_with fail
  refine (newBook_add N1 ex1 good1 (by simp) fits1 (by simp)).mono ?_
  rintro e w2 ⟨rfl, N2⟩
  clear N1
  go_wp2_with fail
  refine (newBook_add N2 ex2 good2 (by simp [ex1, ex2]) fits2 (by simp)).mono ?_
  rintro e w3 ⟨rfl, N3⟩
  clear N2
  go_wp2_with fail
  refine (newBook_add N3 ex3 good3 (by simp [ex1, ex2, ex3]) fits3 (by simp)).mono ?_
  rintro e w4 ⟨rfl, N4⟩
  clear N3
  have N4 : NewBook w w4 b 5 3 [ex1, ex2, ex3] := N4
  go_wp2_with fail
  obtain ⟨F4, D, hB, hD⟩ := N4
  refine (bookFront w4 b D 5 3 _ hB 0 (.inl rfl) ex2 [ex3, ex1] ex_of).mono ?_
  rintro e w5 ⟨rfl, F5⟩
  have N5 := Lib.hid (NewBook.fr ⟨F4, D, hB, hD⟩ F5)
  clear F4 hB hD F5
  unfold ex2
  go_wp2_with fail
  have F6 : Fr [] w5 (w5.alloc (.cells ex2.a 43)) := (Fr.refl _ _).alloc _
  obtain ⟨F7, D, hB, hD⟩ := N5.out.fr F6
  refine (bookWorth _ b D 5 3 _ hB 0 (.inl rfl) [ex2, ex3, ex1] ex_of 11 (by unfold In63; omega)).mono ?_
  rintro e w7 ⟨rfl, F8⟩
  go_wp2_with fail
  go_ret
  exact ⟨rfl, F7.trans F8⟩
end Go.Proofs.Ytkimldeagndgjaa

/- A nil book, walked. -/
namespace Go.Proofs.Ytkimldeagndgjaa
set_option linter.unusedVariables false
set_option linter.unusedSimpArgs false
open Go.RowKit

theorem bkRemove_nil (w : World) (id : Int) : Calls Try.prog 26 #[.pointer none, .int .i64 id] w fun e w' => e = .returned (.tuple #[.agg ord0.a, .int .i64 1]) ∧ Fr [] w w' := by
  go_enter Try.func26, Try.ntmps26
  go_wp2_with fail
  exact bodyPost_ret (v := .tuple #[.agg ord0.a, .int .i64 1]) (by simp [results, Try.results26, go_sem, ord0]) rfl ⟨rfl, by with_reducible repeat (first | exact Fr.refl _ _ | assumption | apply Fr.drew | apply Fr.drewN | apply Fr.alloc | (apply Fr.step; assumption; (intro _ h; (first | exact h | (focus (simp_all; done))))) | (apply Fr.setIn; (first | exact List.mem_cons_self | exact List.mem_cons_of_mem _ List.mem_cons_self | exact List.mem_cons_of_mem _ (List.mem_cons_of_mem _ List.mem_cons_self) | exact List.mem_cons_of_mem _ (List.mem_cons_of_mem _ (List.mem_cons_of_mem _ List.mem_cons_self)))) | (apply Fr.setNew; (first | omega | (simp; omega))))⟩
theorem bkReduce_nil (w : World) (id y : Int) : Calls Try.prog 42 #[.pointer none, .int .i64 id, .int .i64 y] w fun e w' => e = .returned (.tuple #[.agg ord0.a, .int .i64 1]) ∧ Fr [] w w' := by
  go_enter Try.func42, Try.ntmps42
  go_wp2_with fail
  exact bodyPost_ret (v := .tuple #[.agg ord0.a, .int .i64 1]) (by simp [results, Try.results42, go_sem, ord0]) rfl ⟨rfl, by with_reducible repeat (first | exact Fr.refl _ _ | assumption | apply Fr.drew | apply Fr.drewN | apply Fr.alloc | (apply Fr.step; assumption; (intro _ h; (first | exact h | (focus (simp_all; done))))) | (apply Fr.setIn; (first | exact List.mem_cons_self | exact List.mem_cons_of_mem _ List.mem_cons_self | exact List.mem_cons_of_mem _ (List.mem_cons_of_mem _ List.mem_cons_self) | exact List.mem_cons_of_mem _ (List.mem_cons_of_mem _ (List.mem_cons_of_mem _ List.mem_cons_self)))) | (apply Fr.setNew; (first | omega | (simp; omega))))⟩
theorem bkFront_nil (w : World) (s : Int) : Calls Try.prog 30 #[.pointer none, .int .i64 s] w fun e w' => e = .returned (.tuple #[.agg ord0.a, .bool false]) ∧ Fr [] w w' := by
  go_enter Try.func30, Try.ntmps30
  go_wp2_with fail
  refine (of_side_nil _ _).mono ?_
  rintro e w1 ⟨rfl, rfl⟩
  go_wp2_with fail
  exact bodyPost_ret (v := .tuple #[.agg ord0.a, .bool false]) (by simp [results, Try.results30, go_sem, ord0]) rfl ⟨rfl, by with_reducible repeat (first | exact Fr.refl _ _ | assumption | apply Fr.drew | apply Fr.drewN | apply Fr.alloc | (apply Fr.step; assumption; (intro _ h; (first | exact h | (focus (simp_all; done))))) | (apply Fr.setIn; (first | exact List.mem_cons_self | exact List.mem_cons_of_mem _ List.mem_cons_self | exact List.mem_cons_of_mem _ (List.mem_cons_of_mem _ List.mem_cons_self) | exact List.mem_cons_of_mem _ (List.mem_cons_of_mem _ (List.mem_cons_of_mem _ List.mem_cons_self)))) | (apply Fr.setNew; (first | omega | (simp; omega))))⟩
theorem bkBest_nil (w : World) (s : Int) : Calls Try.prog 43 #[.pointer none, .int .i64 s] w fun e w' => e = .returned (.tuple #[.int .i64 0, .bool false]) ∧ Fr [] w w' := by
  go_enter Try.func43, Try.ntmps43
  go_wp2_with fail
  refine (of_side_nil _ _).mono ?_
  rintro e w1 ⟨rfl, rfl⟩
  go_wp2_with fail
  go_ret2
  exact ⟨rfl, by with_reducible repeat (first | exact Fr.refl _ _ | assumption | apply Fr.drew | apply Fr.drewN | apply Fr.alloc | (apply Fr.step; assumption; (intro _ h; (first | exact h | (focus (simp_all; done))))) | (apply Fr.setIn; (first | exact List.mem_cons_self | exact List.mem_cons_of_mem _ List.mem_cons_self | exact List.mem_cons_of_mem _ (List.mem_cons_of_mem _ List.mem_cons_self) | exact List.mem_cons_of_mem _ (List.mem_cons_of_mem _ (List.mem_cons_of_mem _ List.mem_cons_self)))) | (apply Fr.setNew; (first | omega | (simp; omega))))⟩
theorem bkAt_nil (w : World) (s p : Int) : Calls Try.prog 44 #[.pointer none, .int .i64 s, .int .i64 p] w fun e w' => e = .returned (.int .i64 0) ∧ Fr [] w w' := by
  go_enter Try.func44, Try.ntmps44
  go_wp2_with fail
  refine (of_side_nil _ _).mono ?_
  rintro e w1 ⟨rfl, rfl⟩
  go_wp2_with fail
  go_ret
  exact ⟨rfl, by with_reducible repeat (first | exact Fr.refl _ _ | assumption | apply Fr.drew | apply Fr.drewN | apply Fr.alloc | (apply Fr.step; assumption; (intro _ h; (first | exact h | (focus (simp_all; done))))) | (apply Fr.setIn; (first | exact List.mem_cons_self | exact List.mem_cons_of_mem _ List.mem_cons_self | exact List.mem_cons_of_mem _ (List.mem_cons_of_mem _ List.mem_cons_self) | exact List.mem_cons_of_mem _ (List.mem_cons_of_mem _ (List.mem_cons_of_mem _ List.mem_cons_self)))) | (apply Fr.setNew; (first | omega | (simp; omega))))⟩
theorem bkWorth_nil (w : World) (s p : Int) : Calls Try.prog 45 #[.pointer none, .int .i64 s, .int .i64 p] w fun e w' => e = .returned (.int .i64 0) ∧ Fr [] w w' := by
  go_enter Try.func45, Try.ntmps45
  go_wp2_with fail
  refine (of_side_nil _ _).mono ?_
  rintro e w1 ⟨rfl, rfl⟩
  go_wp2_with fail
  go_ret
  exact ⟨rfl, by with_reducible repeat (first | exact Fr.refl _ _ | assumption | apply Fr.drew | apply Fr.drewN | apply Fr.alloc | (apply Fr.step; assumption; (intro _ h; (first | exact h | (focus (simp_all; done))))) | (apply Fr.setIn; (first | exact List.mem_cons_self | exact List.mem_cons_of_mem _ List.mem_cons_self | exact List.mem_cons_of_mem _ (List.mem_cons_of_mem _ List.mem_cons_self) | exact List.mem_cons_of_mem _ (List.mem_cons_of_mem _ (List.mem_cons_of_mem _ List.mem_cons_self)))) | (apply Fr.setNew; (first | omega | (simp; omega))))⟩
theorem bkFits_nil (w : World) (s p : Int) : Calls Try.prog 47 #[.pointer none, .int .i64 s, .int .i64 p] w fun e w' => e = .returned (.bool false) ∧ Fr [] w w' := by
  go_enter Try.func47, Try.ntmps47
  go_wp2_with fail
  refine (of_side_nil _ _).mono ?_
  rintro e w1 ⟨rfl, rfl⟩
  go_wp2_with fail
  go_ret
  exact ⟨rfl, by with_reducible repeat (first | exact Fr.refl _ _ | assumption | apply Fr.drew | apply Fr.drewN | apply Fr.alloc | (apply Fr.step; assumption; (intro _ h; (first | exact h | (focus (simp_all; done))))) | (apply Fr.setIn; (first | exact List.mem_cons_self | exact List.mem_cons_of_mem _ List.mem_cons_self | exact List.mem_cons_of_mem _ (List.mem_cons_of_mem _ List.mem_cons_self) | exact List.mem_cons_of_mem _ (List.mem_cons_of_mem _ (List.mem_cons_of_mem _ List.mem_cons_self)))) | (apply Fr.setNew; (first | omega | (simp; omega))))⟩
theorem bkRoom_nil (w : World) (s p : Int) : Calls Try.prog 46 #[.pointer none, .int .i64 s, .int .i64 p] w fun e w' => e = .returned (.bool false) ∧ Fr [] w w' := by
  go_enter Try.func46, Try.ntmps46
  go_wp2_with fail
  refine (bkFits_nil _ _ _).mono ?_
  rintro e w1 ⟨rfl, F⟩
  go_wp2_with fail
  go_ret
  exact ⟨rfl, F⟩
theorem bkLen_nil (w : World) : Calls Try.prog 29 #[.pointer none] w fun e w' => e = .returned (.int .i64 0) ∧ Fr [] w w' := by
  go_enter Try.func29, Try.ntmps29
  go_wp2_with fail
  go_ret
  exact ⟨rfl, by with_reducible repeat (first | exact Fr.refl _ _ | assumption | apply Fr.drew | apply Fr.drewN | apply Fr.alloc | (apply Fr.step; assumption; (intro _ h; (first | exact h | (focus (simp_all; done))))) | (apply Fr.setIn; (first | exact List.mem_cons_self | exact List.mem_cons_of_mem _ List.mem_cons_self | exact List.mem_cons_of_mem _ (List.mem_cons_of_mem _ List.mem_cons_self) | exact List.mem_cons_of_mem _ (List.mem_cons_of_mem _ (List.mem_cons_of_mem _ List.mem_cons_self)))) | (apply Fr.setNew; (first | omega | (simp; omega))))⟩
theorem bkCrossed_nil (w : World) : Calls Try.prog 48 #[.pointer none] w fun e w' => e = .returned (.bool false) ∧ Fr [] w w' := by
  go_enter Try.func48, Try.ntmps48
  go_wp2_with fail
  refine (bkBest_nil _ _).mono ?_
  rintro e w1 ⟨rfl, F⟩
  go_wp2_with fail
  refine (bkBest_nil _ _).mono ?_
  rintro e w2 ⟨rfl, F2⟩
  go_wp2_with fail
  go_ret
  exact ⟨rfl, F.trans F2⟩
end Go.Proofs.Ytkimldeagndgjaa

/- A nil book: Get, Better, Each, walked. -/
namespace Go.Proofs.Ytkimldeagndgjaa
set_option linter.unusedVariables false
set_option linter.unusedSimpArgs false
open Go.RowKit Go.Shelf

theorem bkFind_nil (w : World) (id : Int) : Calls Try.prog 90 #[.pointer none, .int .i64 id] w fun e w' => e = .returned (.tuple #[.agg ord0.a, .int .i64 0, .bool false]) ∧ Fr [] w w' := by
  go_enter Try.func90, Try.ntmps90
  go_wp2_with fail
  exact bodyPost_ret (v := .tuple #[.agg ord0.a, .int .i64 0, .bool false]) (by simp [results, Try.results90, go_sem, ord0]) rfl ⟨rfl, by with_reducible repeat (first | exact Fr.refl _ _ | assumption | apply Fr.drew | apply Fr.drewN | apply Fr.alloc | (apply Fr.step; assumption; (intro _ h; (first | exact h | (focus (simp_all; done))))) | (apply Fr.setIn; (first | exact List.mem_cons_self | exact List.mem_cons_of_mem _ List.mem_cons_self | exact List.mem_cons_of_mem _ (List.mem_cons_of_mem _ List.mem_cons_self) | exact List.mem_cons_of_mem _ (List.mem_cons_of_mem _ (List.mem_cons_of_mem _ List.mem_cons_self)))) | (apply Fr.setNew; (first | omega | (simp; omega))))⟩
theorem bkGet_nil (w : World) (id : Int) : Calls Try.prog 27 #[.pointer none, .int .i64 id] w fun e w' => e = .returned (.tuple #[.agg ord0.a, .bool false]) ∧ Fr [] w w' := by
  go_enter Try.func27, Try.ntmps27
  go_wp2_with fail
  refine (bkFind_nil _ _).mono ?_
  rintro e w1 ⟨rfl, F⟩
  have B0 := Blk.via F (by simp) (Blk.new w 43 _)
  have F0 : Fr [] w w1 := Fr.trans (by with_reducible repeat (first | exact Fr.refl _ _ | assumption | apply Fr.drew | apply Fr.drewN | apply Fr.alloc | (apply Fr.step; assumption; (intro _ h; (first | exact h | (focus (simp_all; done))))) | (apply Fr.setIn; (first | exact List.mem_cons_self | exact List.mem_cons_of_mem _ List.mem_cons_self | exact List.mem_cons_of_mem _ (List.mem_cons_of_mem _ List.mem_cons_self) | exact List.mem_cons_of_mem _ (List.mem_cons_of_mem _ (List.mem_cons_of_mem _ List.mem_cons_self)))) | (apply Fr.setNew; (first | omega | (simp; omega))))) F
  clear F
  go_wp2_with (refine wpList_storeO rfl (.tmp 4) (.tmp 16) rfl w.heap.size _ ord0 rfl rfl (B0.alloc _) rfl ?_
               intro w3 B3 F3)
  have c3 := B3.cell
  exact bodyPost_ret (v := .tuple #[.agg ord0.a, .bool false]) (by simp [results, Try.results27, go_sem, c3]) rfl ⟨rfl, fr_fresh2 (Nat.le_refl _) (F0.alloc _) F3⟩

def betterB (s x y : Int) : Bool := (s == 0 && decide (y < x)) || (s == 1 && decide (x < y))
theorem better_any (w : World) (s x y : Int) : Calls Try.prog 31 #[.int .i64 s, .int .i64 x, .int .i64 y] w fun e w' => e = .returned (.bool (betterB s x y)) ∧ w = w' := by
  rcases (show s = 0 ∨ s = 1 ∨ ((s == 0) = false ∧ (s == 1) = false) by by_cases a : s = 0 <;> by_cases b : s = 1 <;> simp [a, b]) with rfl | rfl | ⟨h0, h1⟩
  · have e : betterB 0 x y = decide (y < x) := by simp [betterB]
    rw [e]
    go_enter Try.func31, Try.ntmps31
    go_wp2_with fail
    go_ret
    exact ⟨rfl, rfl⟩
  · have e : betterB 1 x y = decide (x < y) := by simp [betterB]
    rw [e]
    go_enter Try.func31, Try.ntmps31
    go_wp2_with fail
    go_ret
    exact ⟨rfl, rfl⟩
  · have e : betterB s x y = false := by simp [betterB, h0, h1]
    rw [e]
    clear e
    go_enter Try.func31, Try.ntmps31
    go_wp2_with fail
    go_ret
    exact ⟨rfl, rfl⟩
theorem refBetter_any (w : World) (s x y : Int) : Calls Try.prog 49 #[.int .i64 s, .int .i64 x, .int .i64 y] w fun e w' => e = .returned (.bool (betterB s x y)) ∧ w = w' := by
  rcases (show (s = 0 ∧ y < x) ∨ (s = 0 ∧ ¬ y < x) ∨ (s = 1 ∧ True) ∨ ((s == 0) = false ∧ (s == 1) = false) by by_cases a : s = 0 <;> by_cases b : s = 1 <;> simp [a, b] <;> omega) with ⟨rfl, h⟩ | ⟨rfl, h⟩ | ⟨rfl, _⟩ | ⟨h0, h1⟩
  · have e : betterB 0 x y = true := by simp [betterB, h]
    rw [e]
    go_enter Try.func49, Try.ntmps49
    go_wp2_with fail
    go_ret
    exact ⟨rfl, rfl⟩
  · have e : betterB 0 x y = false := by simp [betterB, h]
    rw [e]
    go_enter Try.func49, Try.ntmps49
    go_wp2_with fail
    go_ret
    exact ⟨rfl, rfl⟩
  · have e : betterB 1 x y = decide (x < y) := by simp [betterB]
    rw [e]
    go_enter Try.func49, Try.ntmps49
    go_wp2_with fail
    go_ret
    exact ⟨rfl, rfl⟩
  · have e : betterB s x y = false := by simp [betterB, h0, h1]
    rw [e]
    clear e
    go_enter Try.func49, Try.ntmps49
    go_wp2_with fail
    go_ret
    exact ⟨rfl, rfl⟩

theorem bEach_mk (w : World) (q : Value) (i : Int) (hq : ∃ a, q = .pointer a) :
    Calls Try.prog 37 #[q, .int .i64 i] w fun e w' => e = .returned (.func (.func 99) #[] #[.pointer (some ⟨w.heap.size, 0, none⟩), .pointer (some ⟨w.heap.size + 1, 0, none⟩)]) ∧ (w.alloc (.cells #[q] 24)).alloc (.cells #[.int .i64 i] 3) = w' := by
  obtain ⟨a, rfl⟩ := hq
  have hmf : ∀ (fn : Fn) (first cap : Array Value) (w : World), (Instr.makeFunc fn first cap).run Try.prog w = .ok (.func fn first cap) w := fun _ _ _ _ => rfl
  go_enter Try.func37, Try.ntmps37
  go_wp2_with fail
  go_ret
  exact ⟨rfl, rfl⟩

theorem bEach1_nil (W : World) (l b1 b2 : Nat) (i : Int) (h1 : Blk W b1 24 #[.pointer none]) (h2 : Blk W b2 3 #[.int .i64 i]) :
    Calls Try.prog 99 #[.func (.yield l) #[] #[], .pointer (some ⟨b1, 0, none⟩), .pointer (some ⟨b2, 0, none⟩)] W fun e W' => e = .returned (.tuple #[]) ∧ Fr [] W W' := by
  have c1 := h1.cell
  have c2 := h2.cell
  have l1 := h1.lt
  have l2 := h2.lt
  go_enter Try.func99, Try.ntmps99
  go_wp2_with fail
  go_step3
  go_wp2_with fail
  refine (of_side_nil _ _).mono ?_
  rintro e w1 ⟨rfl, rfl⟩
  go_wp2_with fail
  rw [Exit.noGoto_ret]
  refine bodyPost_ret (results_none rfl _ _ _) rfl ?_
  exact ⟨rfl, by with_reducible repeat (first | exact Fr.refl _ _ | assumption | apply Fr.drew | apply Fr.drewN | apply Fr.alloc | (apply Fr.step; assumption; (intro _ h; (first | exact h | (focus (simp_all; done))))) | (apply Fr.setIn; (first | exact List.mem_cons_self | exact List.mem_cons_of_mem _ List.mem_cons_self | exact List.mem_cons_of_mem _ (List.mem_cons_of_mem _ List.mem_cons_self) | exact List.mem_cons_of_mem _ (List.mem_cons_of_mem _ (List.mem_cons_of_mem _ List.mem_cons_self)))) | (apply Fr.setNew; (first | omega | (simp; omega))))⟩
theorem bEach_own_nil (W0 : World) (b1 b2 : Nat) (i : Int) (T : List Nat) (h1 : Blk W0 b1 24 #[.pointer none]) (h2 : Blk W0 b2 3 #[.int .i64 i]) :
    SeqOwn Try.prog 99 #[.pointer (some ⟨b1, 0, none⟩), .pointer (some ⟨b2, 0, none⟩)] (fun x : Ord => #[.agg x.a]) T [] W0 := by
  intro l J Jx W hb hJ hJx hY h0
  refine (bEach1_nil W l b1 b2 i (h1.below hb h1.lt) (h2.below hb h2.lt)).mono ?_
  rintro e W' ⟨rfl, hf⟩
  exact ⟨⟨_, rfl⟩, .inl (hJ _ _ _ none h0 ⟨hf.os, hf.tape, hf.output, hf.size, fun i hi _ => hf.block i hi (by simp)⟩ (by simp))⟩
end Go.Proofs.Ytkimldeagndgjaa
