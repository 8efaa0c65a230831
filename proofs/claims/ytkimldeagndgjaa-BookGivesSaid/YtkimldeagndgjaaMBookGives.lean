/- The row of the law BookGives: for every input the law returns true, and each argument reads behind the call as it read before. Out of the walk bookGives_walk. -/
import Derived.WalkKit
import Derived.ProofKit
import Derived.OpenShut
import Derived.ShutString
import Derived.ChangeOld
import Derived.Below
import Derived.SizedLaws
import Derived.Test.YtkimldeagndgjaaRows
import Derived.Test.YtkimldeagndgjaaG6
import Derived.Test.YtkimldeagndgjaaG7
/- Where an order stands in what comes in, walked. -/
namespace Go.Proofs.Ytkimldeagndgjaa
set_option linter.unusedVariables false
set_option linter.unusedSimpArgs false
open Go.RowKit

/-- The orders that come in. -/
def inO (F : Nat → Nat → Int) (n : Nat) : List Ord := (List.range n).map (rowO F)
/-- The first place from k on. -/
def plcF (F : Nat → Nat → Int) (o : Ord) (n : Nat) : Int := if o ∈ inO F n then ((inO F n).idxOf o : Nat) else -1

theorem inO_get {F : Nat → Nat → Int} {n k : Nat} (h : k < n) : (inO F n)[k]? = some (rowO F k) := by simp [inO, h]
theorem inO_mem {F : Nat → Nat → Int} {n : Nat} {o : Ord} : o ∈ inO F n ↔ ∃ j, j < n ∧ rowO F j = o := by simp [inO]
theorem idxOf_first {l : List Ord} {o : Ord} : ∀ {k : Nat}, l[k]? = some o → (∀ j, j < k → l[j]? ≠ some o) → l.idxOf o = k := by
  induction l with
  | nil => intro k h; simp at h
  | cons a r ih =>
    intro k h hn
    rw [List.idxOf_cons]
    by_cases c : a = o
    · subst c
      cases k with
      | zero => simp
      | succ k => exact absurd rfl (hn 0 (by omega))
    · rw [show (a == o) = false by simpa using c]
      cases k with
      | zero => simp at h; exact absurd h c
      | succ k =>
        have := ih (k := k) (by simpa using h) (fun j hj => by simpa using hn (j + 1) (by omega))
        simp [this]
theorem plcF_hit {F : Nat → Nat → Int} {n k : Nat} {o : Ord} (h : k < n) (hn : ∀ j, j < k → rowO F j ≠ o) (he : rowO F k = o) : plcF F o n = k := by
  unfold plcF
  rw [if_pos (inO_mem.2 ⟨k, h, he⟩), idxOf_first (k := k) (by rw [inO_get h, he]) (fun j hj => by rw [inO_get (by omega)]; exact fun e => hn j hj (Option.some.inj e))]
theorem plcF_miss {F : Nat → Nat → Int} {n : Nat} {o : Ord} (hn : ∀ j, j < n → rowO F j ≠ o) : plcF F o n = -1 := by
  unfold plcF
  rw [if_neg (fun h => by obtain ⟨j, h1, h2⟩ := inO_mem.1 h; exact hn j h1 h2)]

set_option maxRecDepth 5000 in
theorem lawPlace (w : World) (A : Option Addr) (n c : Nat) (F : Nat → Nat → Int) (hr : IntRow w A n 7 F) (hn : n ≤ 60) (o : Ord) :
    Calls Try.prog 32 #[.slice A n c, .agg o.a] w fun e w' => e = .returned (.int .i64 (plcF F o n)) ∧ Fr [] w w' := by
  have HR := Lib.hid hr
  have heq := eql_ord
  clear hr
  go_enter Try.func32, Try.ntmps32
  go_wp2_with fail
  refine wp_name (fun W0 hW => ?_)
  have B0 := Blk.box0 hW
  have F0 : Fr [] w W0 := Fr.eqv hW (by with_reducible repeat (first | exact Fr.refl _ _ | assumption | apply Fr.drew | apply Fr.drewN | apply Fr.alloc | (apply Fr.step; assumption; (intro _ h; (first | exact h | (focus (simp_all; done))))) | (apply Fr.setIn; (first | exact List.mem_cons_self | exact List.mem_cons_of_mem _ List.mem_cons_self | exact List.mem_cons_of_mem _ (List.mem_cons_of_mem _ List.mem_cons_self) | exact List.mem_cons_of_mem _ (List.mem_cons_of_mem _ (List.mem_cons_of_mem _ List.mem_cons_self)))) | (apply Fr.setNew; (first | omega | (simp; omega)))))
  clear hW
  go_loopw [5] (fun s5 wr => ∃ k : Nat, k ≤ n ∧ s5 = .int .i64 k ∧ (∀ j, j < k → rowO F j ≠ o) ∧ Fr [] w wr ∧ Blk wr w.heap.size 43 o.a) (fun s5 _ => n - (intOf s5).toNat)
  case atStart => exact ⟨0, by omega, rfl, fun j hj => by omega, F0, B0⟩
  case round =>
    obtain ⟨k, hk, rfl, hno, F3, B3⟩ := hrel
    have HNO := Lib.hid hno
    clear B0 F0 hno
    by_cases hlt : k < n
    · have i0 : (0 : Int) ≤ (k : Int) := by omega
      have i1 : (k : Int) < (n : Int) := by omega
      obtain ⟨ab, ao, rfl, hab, hcell⟩ := HR.out.2 (by omega)
      go_wp2_with fail
      have HC := Lib.hid hcell
      clear hcell
      have H7 : Hid (∀ w', Fr [] wr w' → _) := Lib.hid (fun w' hf => row_seven (w' := w') HC.out hlt hab (F3.trans hf))
      refine wp_region_soft (by kernel_rfl) (by kernel_rfl) ?_; (repeat (refine wpQuiet_step (fun K hK => ?_); (first | ((fail); go_simp; refine hK _ ?_; clear hK K) | (apply soft_do; (rfl); (focus (intro W hC; (obtain ⟨r0, r1, r2, r3, r4, r5, r6⟩ := H7.out _ hC; have q3 := (Blk.via hC (by simp) B3).cell); go_simp; (first | (fail) | done | rfl | exact ⟨rfl, rfl⟩))); (go_simp; refine hK _ ?_; clear hK K)) | (apply soft_skip; (rfl); (go_simp; refine hK _ ?_; clear hK K))))); refine wpQuiet_nil ?_
      intro w2 F2
      rw [ord_dec, show (⟨F k 0, F k 1, F k 2, F k 3, F k 4, F k 5, F k 6⟩ : Ord) = rowO F k from rfl, show (⟨o.id, o.ow, o.sd, o.pr, o.qt, o.fl, o.sq⟩ : Ord) = o from rfl]
      cases hc : decide (rowO F k = o)
      · have HCc := Lib.hid (of_decide_eq_false hc)
        clear hc
        go_wp2_with fail
        go_roundw
        case rel => exact ⟨k + 1, by omega, by simp, fun j hj => by
          rcases Nat.lt_or_ge j k with h | h
          · exact HNO.out j h
          · obtain rfl : j = k := by omega
            exact HCc.out, F3.trans F2, Blk.via F2 (by simp) B3⟩
        case measure => simp [intOf]; omega
      · have HPp := Lib.hid (plcF_hit hlt HNO.out (of_decide_eq_true hc))
        clear hc
        go_wp2_with fail
        go_ret
        exact ⟨by rw [HPp.out]; rfl, F3.trans F2⟩
    · obtain rfl : k = n := by omega
      have HPp := Lib.hid (plcF_miss HNO.out)
      go_wp2_with fail
      go_ret
      exact ⟨by rw [HPp.out]; rfl, F3⟩
end Go.Proofs.Ytkimldeagndgjaa

/- What is added to a book and taken out again: the plain law. -/
namespace Go.Proofs.Ytkimldeagndgjaa
set_option linter.unusedVariables false
set_option linter.unusedSimpArgs false
open Go.RowKit

/-- Behind k of the orders that come in, L is in the book. -/
structure AddInv (F : Nat → Nat → Int) (n k : Nat) (L : List Ord) : Prop where
  pw : L.Pairwise (fun a b => plcF F a n < plcF F b n)
  at' : ∀ x ∈ L, ∃ j, j < k ∧ plcF F x n = j
  all : ∀ j, j < k → Good (rowO F j) → ∃ x ∈ L, x.id = (rowO F j).id
  len : L.length ≤ k
theorem AddInv.zero (F : Nat → Nat → Int) (n : Nat) : AddInv F n 0 [] := ⟨.nil, by simp, by simp, by simp⟩
theorem addF_zero {N K : Nat} {L : List Ord} {o : Ord} : addF N K L o = 0 ↔ Good o ∧ (∀ x ∈ L, x.id ≠ o.id) ∧ fitsB o.sd o.pr L K = true ∧ L.length < N := by
  unfold addF
  by_cases c1 : o.sd = 0 ∨ o.sd = 1
  · rw [if_neg (fun h => h c1)]
    by_cases c2 : Good o
    · rw [if_neg (fun h => h c2)]
      by_cases c3 : L.any (fun x => decide (x.id = o.id)) = true
      · rw [if_pos c3]
        obtain ⟨x, hx, h3⟩ := List.any_eq_true.1 c3
        exact ⟨fun h => (by cases h), fun h => absurd (of_decide_eq_true h3) (h.2.1 x hx)⟩
      · rw [if_neg c3]
        have hid : ∀ x ∈ L, x.id ≠ o.id := fun x hx e => c3 (List.any_eq_true.2 ⟨x, hx, decide_eq_true e⟩)
        by_cases c4 : (fitsB o.sd o.pr L K && decide (L.length < N)) = true
        · rw [if_pos c4]
          rw [Bool.and_eq_true, decide_eq_true_iff] at c4
          exact ⟨fun _ => ⟨c2, hid, c4⟩, fun _ => rfl⟩
        · rw [if_neg c4]
          rw [Bool.and_eq_true, decide_eq_true_iff] at c4
          exact ⟨fun h => (by cases h), fun h => absurd h.2.2 c4⟩
    · rw [if_pos c2]; exact ⟨fun h => (by cases h), fun h => absurd h.1 c2⟩
  · rw [if_pos c1]; exact ⟨fun h => (by cases h), fun h => absurd h.1.sd c1⟩
theorem AddInv.step {F : Nat → Nat → Int} {n k : Nat} {L : List Ord} (h : AddInv F n k L) (hk : k < n) (hn : n ≤ 60) : AddInv F n (k + 1) (addL 60 60 L (rowO F k)) := by
  have hlen := h.len
  have hpl := prsL_len (s := (rowO F k).sd) (L := L) (acc := [])
  have hfit : fitsB (rowO F k).sd (rowO F k).pr L 60 = true := by
    unfold fitsB
    rw [Bool.or_eq_true, decide_eq_true_iff]
    simp only [List.length_nil] at hpl
    exact .inr (by omega)
  unfold addL
  by_cases c : addF 60 60 L (rowO F k) = 0
  · rw [if_pos c]
    obtain ⟨hg, hid, _, _⟩ := addF_zero.1 c
    have hno : ∀ j, j < k → rowO F j ≠ rowO F k := fun j hj e => by
      obtain ⟨x, hx, h1⟩ := h.all j hj (e ▸ hg)
      exact hid x hx (by rw [h1, e])
    have hp := plcF_hit hk hno rfl
    refine ⟨?_, ?_, ?_, by simp; omega⟩
    · rw [List.pairwise_append]
      refine ⟨h.pw, by simp, fun a ha b hb => ?_⟩
      rw [List.mem_singleton.1 hb, hp]
      obtain ⟨j, hj, h1⟩ := h.at' a ha
      rw [h1]; omega
    · intro x hx
      rcases List.mem_append.1 hx with hx | hx
      · obtain ⟨j, hj, h1⟩ := h.at' x hx
        exact ⟨j, by omega, h1⟩
      · rw [List.mem_singleton.1 hx]; exact ⟨k, by omega, hp⟩
    · intro j hj hgj
      rcases Nat.lt_or_ge j k with h1 | h1
      · obtain ⟨x, hx, h2⟩ := h.all j h1 hgj
        exact ⟨x, by simp [hx], h2⟩
      · obtain rfl : j = k := by omega
        exact ⟨_, by simp, rfl⟩
  · rw [if_neg c]
    refine ⟨h.pw, fun x hx => ?_, ?_, by omega⟩
    · obtain ⟨j, hj, h1⟩ := h.at' x hx
      exact ⟨j, by omega, h1⟩
    · intro j hj hgj
      rcases Nat.lt_or_ge j k with h1 | h1
      · exact h.all j h1 hgj
      · obtain rfl : j = k := by omega
        rcases Classical.em (∃ x ∈ L, x.id = (rowO F j).id) with h2 | h2
        · exact h2
        · exact absurd (addF_zero.2 ⟨hgj, fun x hx e => h2 ⟨x, hx, e⟩, hfit, by omega⟩) c
/-- What is left in the book while it is taken out, side s. -/
structure OutInv (F : Nat → Nat → Int) (n : Nat) (L : List Ord) : Prop where
  pw : L.Pairwise (fun a b => plcF F a n < plcF F b n)
  pos : ∀ x ∈ L, 0 ≤ plcF F x n
theorem AddInv.out {F : Nat → Nat → Int} {n k : Nat} {L : List Ord} (h : AddInv F n k L) : OutInv F n L :=
  ⟨h.pw, fun x hx => by obtain ⟨j, _, h1⟩ := h.at' x hx; omega⟩
theorem OutInv.rmv {F : Nat → Nat → Int} {n : Nat} {L : List Ord} (h : OutInv F n L) (id : Int) : OutInv F n (rmv id L) :=
  ⟨h.pw.filter _, fun x hx => h.pos x (List.mem_filter.1 hx).1⟩
theorem OutInv.side {F : Nat → Nat → Int} {n : Nat} {L Y : List Ord} {s : Int} (h : OutInv F n L) (hY : OfL s L Y) : Y.Pairwise (fun a b => keyI s a.pr ≤ keyI s b.pr ∧ (a.pr = b.pr → plcF F a n < plcF F b n)) := by
  rw [List.pairwise_and_iff]
  refine ⟨hY.1, ?_⟩
  rw [List.pairwise_iff_forall_sublist]
  intro a b hab e
  have h1 : ([a, b].filter fun x => decide (x.pr = b.pr)).Sublist (Y.filter fun x => decide (x.pr = b.pr)) := hab.filter _
  rw [hY.2 b.pr] at h1
  have h2 : [a, b].filter (fun x => decide (x.pr = b.pr)) = [a, b] := by simp [e]
  rw [h2] at h1
  exact List.pairwise_iff_forall_sublist.1 h.pw (h1.trans List.filter_sublist)
theorem rmv_head {N : Nat} {L : List Ord} {s : Int} {o : Ord} {Y : List Ord} (hL : GoodL N L) (hY : OfL s L (o :: Y)) : OfL s (rmv o.id L) Y ∧ (rmv o.id L).length + 1 = L.length := by
  have hnd : ∀ y ∈ Y, y.id ≠ o.id := by
    intro y hy e
    have e2 : y = o := hL.eq_of_id (hY.mem.1 (by simp [hy])).1 (hY.mem.1 (by simp)).1 e
    subst e2
    obtain ⟨A, B, rfl⟩ := List.append_of_mem hy
    have h1 := hY.2 y.pr
    have h2 : (L.filter fun a => decide (a.sd = s ∧ a.pr = y.pr)).Sublist L := List.filter_sublist
    rw [← h1] at h2
    have h3 : [y, y].Sublist ((y :: (A ++ y :: B)).filter fun a => decide (a.pr = y.pr)) := by
      have : ([y, y].filter fun a => decide (a.pr = y.pr)).Sublist ((y :: (A ++ y :: B)).filter fun a => decide (a.pr = y.pr)) := List.Sublist.filter _ (by simp)
      simp at this ⊢
    have h4 := (h3.trans h2).map (·.id)
    have := h4.nodup hL.nd
    simp at this
  have h1 := rmv_of (id := o.id) hY
  have h2 : rmv o.id (o :: Y) = Y := by
    unfold rmv
    rw [List.filter_cons, if_neg (by simp), List.filter_eq_self.2]
    intro y hy
    simpa using hnd y hy
  rw [h2] at h1
  refine ⟨h1, ?_⟩
  have ho : o ∈ L := (hY.mem.1 (by simp)).1
  obtain ⟨A, B, hAB⟩ := List.append_of_mem ho
  have hn := hL.nd
  rw [hAB] at hn ⊢
  simp only [List.map_append, List.map_cons] at hn
  have n1 := List.nodup_append.1 hn
  have n2 := List.nodup_cons.1 n1.2.1
  unfold rmv
  rw [List.filter_append, List.filter_cons, if_neg (by simp), List.filter_eq_self.2, List.filter_eq_self.2]
  · simp; omega
  · intro y hy
    simpa using fun e : y.id = o.id => n2.1 (e ▸ List.mem_map.2 ⟨y, hy, rfl⟩)
  · intro y hy
    simpa using fun e : y.id = o.id => n1.2.2 y.id (List.mem_map.2 ⟨y, hy, rfl⟩) o.id (by simp) e
theorem OfL.len {N : Nat} {L : List Ord} {s : Int} {Y : List Ord} (hL : GoodL N L) (hY : OfL s L Y) : Y.length ≤ L.length := by
  have hp : ∀ x ∈ Y, x ∈ L := fun x hx => (hY.mem.1 hx).1
  have hnd : Y.Nodup := by
    rw [List.nodup_iff_count]
    intro a
    have h2 : Y.count a = (Y.filter (fun x => decide (x.pr = a.pr))).count a := by rw [List.count_filter (by simp)]
    rw [h2, hY.2 a.pr]
    have : L.Nodup := by
      have h1 := hL.nd
      rw [List.nodup_iff_pairwise_ne, List.pairwise_map] at h1
      exact h1.imp fun h e => h (by rw [e])
    exact List.nodup_iff_count.1 (this.filter _) a
  exact List.Nodup.length_le_of_subset hnd hp
end Go.Proofs.Ytkimldeagndgjaa

/- The law BookGives, walked. -/
namespace Go.Proofs.Ytkimldeagndgjaa
set_option linter.unusedVariables false
set_option linter.unusedSimpArgs false
open Go.RowKit

theorem newBook_front {w0 w : World} {b N K : Nat} {L : List Ord} (h : NewBook w0 w b N K L) (s : Int) (hs : s = 0 ∨ s = 1) (Y : List Ord) (hY : OfL s L Y) :
    Calls Try.prog 30 #[.pointer (some ⟨b, 0, none⟩), .int .i64 s] w fun e w' => (match Y with | [] => e = .returned (.tuple #[.agg ord0.a, .bool false]) | o :: _ => e = .returned (.tuple #[.agg o.a, .bool true])) ∧ NewBook w0 w' b N K L ∧ Fr [] w w' := by
  have h0 := h
  obtain ⟨F, D, hB, hD⟩ := h
  cases Y with
  | nil => exact (bookFront_no w b D N K L hB s hs hY).mono fun e w' ⟨h1, h2⟩ => ⟨h1, h0.fr h2, h2⟩
  | cons o Y => exact (bookFront w b D N K L hB s hs o Y hY).mono fun e w' ⟨h1, h2⟩ => ⟨h1, h0.fr h2, h2⟩
theorem NewBook.of {w0 w : World} {b N K : Nat} {L : List Ord} (h : NewBook w0 w b N K L) (s : Int) (hs : s = 0 ∨ s = 1) : ∃ Y, OfL s L Y := by
  obtain ⟨F, D, hB, hD⟩ := h; exact hB.of s hs
theorem NewBook.goodL {w0 w : World} {b N K : Nat} {L : List Ord} (h : NewBook w0 w b N K L) : GoodL N L := by
  obtain ⟨F, D, hB, hD⟩ := h; exact hB.goodL
/-- A book all of whose blocks are named: for what lies beside it. -/
def OwnBook (w0 w : World) (D : List Nat) (b N K : Nat) (L : List Ord) : Prop := Fr [] w0 w ∧ BookI w b D N K L ∧ ∀ x ∈ D, w0.heap.size ≤ x
theorem ownBook_remove {w0 w : World} {D : List Nat} {b N K : Nat} {L : List Ord} (h : OwnBook w0 w D b N K L) (o : Ord) (ho : o ∈ L) :
    Calls Try.prog 26 #[.pointer (some ⟨b, 0, none⟩), .int .i64 o.id] w fun e w' => e = .returned (.tuple #[.agg o.a, .int .i64 0]) ∧ OwnBook w0 w' D b N K (rmv o.id L) ∧ Fr D w w' :=
  (bookRemove_has w b D N K L h.2.1 o ho).mono fun e w' ⟨h1, h2, h3⟩ => ⟨h1, ⟨fr_newD h.2.2 h.1 h2, h3, h.2.2⟩, h2⟩

theorem betterB_key {s x y : Int} (hs : s = 0 ∨ s = 1) : betterB s x y = decide (keyI s x < keyI s y) := by
  unfold betterB keyI
  rcases hs with rfl | rfl
  · simp only [beq_self_eq_true, Bool.true_and, if_true, show ((0 : Int) == 1) = false from rfl, Bool.false_and, Bool.or_false]
    rw [Bool.eq_iff_iff, decide_eq_true_iff, decide_eq_true_iff]; omega
  · simp
theorem BookI.lts {w : World} {b N K : Nat} {D : List Nat} {L : List Ord} (h : BookI w b D N K L) : ∀ x ∈ D, x < w.heap.size := by
  obtain ⟨ba, bi, bs, bm, so, lp, bq, bn, be, v, bc, fl, m, ix, T, ord, P, rfl⟩ := h.pick 0 (.inl rfl)
  exact P.lt
theorem OwnBook.fr {w0 w w' : World} {D : List Nat} {b N K : Nat} {L : List Ord} (h : OwnBook w0 w D b N K L) (hf : Fr [] w w') : OwnBook w0 w' D b N K L := ⟨h.1.trans hf, h.2.1.fr hf (by simp), h.2.2⟩

set_option maxHeartbeats 4000000 in
set_option maxRecDepth 5000 in
theorem bookGives_walk (w : World) (A0 : Option Addr) (n0 c0 : Nat) (F0 : Nat → Nat → Int) (w0 : IntRow w A0 n0 7 F0) (m0 : n0 ≤ maxLen) :
    Calls Try.prog 6 #[.slice A0 n0 c0] w fun e w' => e = .returned (.bool true) ∧ Below w.heap.size w w' := by
  have hm : (n0 : Int) ≤ 9223372036854775807 := by simp only [maxLen] at m0; omega
  have HR := Lib.hid w0
  clear w0 m0
  by_cases hlen : 60 < n0
  · have t1 : (60 : Int) < (n0 : Int) := by omega
    go_enter Try.func6, Try.ntmps6
    go_wp2_with fail
    refine (newBook_new _ 60 60 (by omega) (by omega) (by omega) (by omega)).mono ?_
    rintro e w1 ⟨b, rfl, N1⟩
    go_wp2_with fail
    refine (bookAlive_any _).mono ?_
    rintro e w2 ⟨rfl, hf⟩
    go_wp2_with fail
    go_ret
    exact ⟨rfl, (N1.1.trans hf).toBelow⟩
  · have t1 : ¬ (60 : Int) < (n0 : Int) := by omega
    have hn : n0 ≤ 60 := by omega
    go_enter Try.func6, Try.ntmps6
    go_wp2_with fail
    refine (newBook_new _ 60 60 (by omega) (by omega) (by omega) (by omega)).mono ?_
    rintro e w1 ⟨b, rfl, N1⟩
    go_wp2_with fail
    go_loopw [5, 6] (fun s5 s6 wr => ∃ (k : Nat) (L : List Ord), k ≤ n0 ∧ s5 = .int .i64 (L.length : Nat) ∧ s6 = .int .i64 k ∧ NewBook w wr b 60 60 L ∧ AddInv F0 n0 k L) (fun _ s6 _ => n0 - (intOf s6).toNat)
    case atStart => exact ⟨0, [], by omega, rfl, rfl, N1, AddInv.zero _ _⟩
    case round =>
      obtain ⟨k, L, hk, rfl, rfl, N2, inv⟩ := hrel
      have HI := Lib.hid inv
      clear N1 inv
      by_cases hlt : k < n0
      · have i0 : (0 : Int) ≤ (k : Int) := by omega
        have i1 : (k : Int) < (n0 : Int) := by omega
        obtain ⟨ab, ao, rfl, hab, hcell⟩ := HR.out.2 (by omega)
        obtain ⟨r0, r1, r2, r3, r4, r5, r6⟩ := row_seven (w' := wr) hcell hlt hab N2.1
        have hll := HI.out.len
        clear hcell
        go_wp2_with fail
        refine (newBook_addAny N2 (rowO F0 k)).mono ?_
        rintro e w3 ⟨rfl, N3⟩
        have inv3 := HI.out.step hlt hn
        have e3 : (addL 60 60 L (rowO F0 k)).length = if addF 60 60 L (rowO F0 k) = 0 then L.length + 1 else L.length := by unfold addL; split <;> simp
        have HE := Lib.hid e3
        have HI3 := Lib.hid inv3
        clear r0 r1 r2 r3 r4 r5 r6 inv3 e3 N2
        by_cases c : addF 60 60 L (rowO F0 k) = 0
        · rw [c]
          go_wp2_with fail
          go_roundw
          case rel => exact ⟨k + 1, _, by omega, by rw [HE.out, if_pos c]; simp, by simp, N3, HI3.out⟩
          case measure => simp [intOf]; omega
        · have c' : (addF 60 60 L (rowO F0 k) == 0) = false := by simpa using c
          have HC := Lib.hid c
          clear c
          go_wp2_with fail
          go_roundw
          case rel => exact ⟨k + 1, _, by omega, by rw [HE.out, if_neg HC.out], by simp, N3, HI3.out⟩
          case measure => simp [intOf]; omega
      · obtain rfl : k = n0 := by omega
        go_wp2_with fail
        obtain ⟨F2, D, hB, hD⟩ := N2
        refine (bookLen wr b D 60 60 L hB).mono ?_
        rintro e w3 ⟨rfl, F3⟩
        have O3 : OwnBook w w3 D b 60 60 L := ⟨F2.trans F3, hB.fr F3 (by simp), hD⟩
        have hOut := HI.out.out
        have hLg := hB.goodL.len
        have hsd0 : ∀ x ∈ L, ((0 : Nat) : Int) ≤ x.sd := fun x hx => by rcases (hB.goodL.good x hx).sd with e | e <;> omega
        clear F2 F3 hB hD HI
        go_wp2_with fail
        go_loopw [5, 7] (fun s5 s7 wr => ∃ (side : Nat) (L' : List Ord), side ≤ 2 ∧ s5 = .int .i64 (L'.length : Nat) ∧ s7 = .int .i64 side ∧ OwnBook w wr D b 60 60 L' ∧ OutInv F0 k L' ∧ ∀ x ∈ L', (side : Int) ≤ x.sd) (fun _ s7 _ => 2 - (intOf s7).toNat)
        case atStart => exact ⟨0, L, by omega, rfl, rfl, O3, hOut, hsd0⟩
        case round =>
          obtain ⟨side, L1, hside, rfl, rfl, O4, inv4, hsd⟩ := hrel
          have HI4 := Lib.hid inv4
          have HSD := Lib.hid hsd
          clear O3 hOut hsd0 inv4 hsd
          have hl4 := O4.2.1.goodL.len
          by_cases hs2 : side < 2
          · have i2 : (side : Int) < 2 := by omega
            have hs01 : (side : Int) = 0 ∨ (side : Int) = 1 := by omega
            go_wp2_with fail
            refine wp_name (fun W5 hW => ?_)
            have B5 : Blk W5 wr.heap.size 43 ord0.a := Blk.box0 hW
            have O5 := O4.fr (Fr.eqv hW (by with_reducible repeat (first | exact Fr.refl _ _ | assumption | apply Fr.drew | apply Fr.drewN | apply Fr.alloc | (apply Fr.step; assumption; (intro _ h; (first | exact h | (focus (simp_all; done))))) | (apply Fr.setIn; (first | exact List.mem_cons_self | exact List.mem_cons_of_mem _ List.mem_cons_self | exact List.mem_cons_of_mem _ (List.mem_cons_of_mem _ List.mem_cons_self) | exact List.mem_cons_of_mem _ (List.mem_cons_of_mem _ (List.mem_cons_of_mem _ List.mem_cons_self)))) | (apply Fr.setNew; (first | omega | (simp; omega))))))
            have hgD : ∀ x ∈ D, x ≠ wr.heap.size := fun x hx e => by have := O4.2.1.lts x hx; omega
            have hgw : w.heap.size ≤ wr.heap.size := O4.1.size
            generalize wr.heap.size = g at *
            clear hW O4
            obtain ⟨Y, hY⟩ := O5.2.1.of side hs01
            have hYl := OfL.len O5.2.1.goodL hY
            go_loopw [5, 9] (fun s5 s9 wr => ∃ (m : Nat) (L2 : List Ord) (last : Ord) (Y : List Ord), m ≤ 60 ∧ s5 = .int .i64 (L2.length : Nat) ∧ s9 = .int .i64 m ∧ OwnBook w wr D b 60 60 L2 ∧ Blk wr g 43 last.a ∧ OutInv F0 k L2 ∧ (∀ x ∈ L2, (side : Int) ≤ x.sd) ∧ OfL side L2 Y ∧ m + Y.length ≤ 60 ∧ (0 < m → ∀ y ∈ Y, keyI side last.pr ≤ keyI side y.pr ∧ (last.pr = y.pr → plcF F0 last k < plcF F0 y k))) (fun _ s9 _ => 60 - (intOf s9).toNat)
            case atStart => exact ⟨0, L1, ord0, Y, by omega, rfl, rfl, O5, B5, HI4.out, HSD.out, hY, by omega, fun h => by omega⟩
            case round =>
              obtain ⟨m, L2, last, Y2, hm60, rfl, rfl, O6, B6, inv6, hsd6, hY6, hmY, hlast⟩ := hrel
              have HI6 := Lib.hid inv6
              have HSD6 := Lib.hid hsd6
              have HY6 := Lib.hid hY6
              have HLA := Lib.hid hlast
              have hl6 := O6.2.1.goodL.len
              have hfin : Y2 = [] → ∀ x ∈ L2, ((side + 1 : Nat) : Int) ≤ x.sd := fun hn x hx => by
                have h1 := HSD6.out x hx
                have h2 : x.sd ≠ side := fun e => by
                  have := HY6.out.mem.2 ⟨hx, e⟩
                  rw [hn] at this; cases this
                omega
              have HF := Lib.hid hfin
              clear B5 O5 inv6 hsd6 hY6 hlast hY hYl hfin
              by_cases hlt6 : m < 60
              · have i6 : (m : Int) < 60 := by omega
                cases Y2 with
                | nil =>
                  go_wp2_with fail
                  refine (bookFront_no wr b D 60 60 L2 O6.2.1 side hs01 HY6.out).mono ?_
                  rintro e w7 ⟨rfl, F7⟩
                  have O7 := O6.fr (F7.alloc (.cells ord0.a 43))
                  have HFo := Lib.hid (HF.out (by trivial))
                  clear O6 B6 HF
                  simp only [ord0] at O7 ⊢
                  go_wp2_with fail
                  go_roundw
                  case rel => exact ⟨side + 1, L2, by omega, rfl, by simp, O7, HI6.out, HFo.out⟩
                  case measure => simp [intOf]; omega
                | cons o Y3 =>
                  go_wp2_with fail
                  refine (bookFront wr b D 60 60 L2 O6.2.1 side hs01 o Y3 HY6.out).mono ?_
                  rintro e w7 ⟨rfl, F7⟩
                  have O7 := O6.fr F7
                  have B7 := Blk.via F7 (by simp) B6
                  clear O6 B6 F7 HF
                  go_wp2_with fail
                  refine wp_name (fun W8 hW => ?_)
                  have B8 : Blk W8 w7.heap.size 43 o.a := Blk.box0 hW
                  have C8 := Blk.eqv hW (B7.alloc _)
                  have O8 := O7.fr (Fr.eqv hW (Fr.alloc (Fr.refl _ _) _))
                  have hxD : ∀ x ∈ D, x ≠ w7.heap.size := fun x hx e => by have := O7.2.1.lts x hx; omega
                  have hgx : g ≠ w7.heap.size := by have := B7.lt; omega
                  generalize w7.heap.size = x at *
                  clear hW O7 B7
                  have hoL : o ∈ L2 := (HY6.out.mem.1 (by simp)).1
                  have HPo := Lib.hid (fun W (hf : Fr [] W8 W) => lawPlace W A0 k c0 F0 (HR.out.below (O8.1.trans hf).toBelow) hn o)
                  have HPl := Lib.hid (fun W (hf : Fr [] W8 W) => lawPlace W A0 k c0 F0 (HR.out.below (O8.1.trans hf).toBelow) hn last)
                  have hpos : ¬ plcF F0 o k < 0 := by have := HI6.out.pos o hoL; omega
                  have HOL := Lib.hid hoL
                  have hcase : (m = 0) ∨ (0 < m ∧ o.pr ≠ last.pr) ∨ (0 < m ∧ o.pr = last.pr) := by omega
                  have HB : Hid (0 < m → ∀ W, Calls Try.prog 31 #[.int .i64 side, .int .i64 o.pr, .int .i64 last.pr] W fun e w' => e = .returned (.bool false) ∧ W = w') := Lib.hid fun h0 W => by
                    have h1 := (HLA.out h0 o (by simp)).1
                    have h2 : betterB side o.pr last.pr = false := by rw [betterB_key hs01, decide_eq_false_iff_not]; omega
                    rw [← h2]; exact better_any W side o.pr last.pr
                  clear hoL
                  rcases hcase with rfl | ⟨h0, hne⟩ | ⟨h0, heq⟩
                  · clear HPl HB
                    refine qw_region (by kernel_rfl) (by kernel_rfl) ?_; (with_reducible apply qw_do; (kernel_rfl); (focus (intro W hC; (have q8 := (Blk.via hC (by simp) B8).cell); go_simp; (first | ((go_at_call 32; refine (HPo.out _ hC).mono ?_; rintro e w2 ⟨rfl, hf⟩; exact ⟨rfl, hC.trans hf⟩)) | done | rfl | exact ⟨rfl, rfl⟩))); (try simp only [Act.put, List.getElem_toArray, List.getElem_cons_succ, List.getElem_cons_zero, List.setIfInBounds_toArray, List.set_cons_zero, List.set_cons_succ])); (with_reducible apply qw_do; (kernel_rfl); (focus (intro W hC; (have q8 := (Blk.via hC (by simp) B8).cell); go_simp; (first | ((go_at_call 32; refine (HPo.out _ hC).mono ?_; rintro e w2 ⟨rfl, hf⟩; exact ⟨rfl, hC.trans hf⟩)) | done | rfl | exact ⟨rfl, rfl⟩))); (try simp only [Act.put, List.getElem_toArray, List.getElem_cons_succ, List.getElem_cons_zero, List.setIfInBounds_toArray, List.set_cons_zero, List.set_cons_succ])); (with_reducible apply qw_do; (kernel_rfl); (focus (intro W hC; (have q8 := (Blk.via hC (by simp) B8).cell); go_simp; (first | ((go_at_call 32; refine (HPo.out _ hC).mono ?_; rintro e w2 ⟨rfl, hf⟩; exact ⟨rfl, hC.trans hf⟩)) | done | rfl | exact ⟨rfl, rfl⟩))); (try simp only [Act.put, List.getElem_toArray, List.getElem_cons_succ, List.getElem_cons_zero, List.setIfInBounds_toArray, List.set_cons_zero, List.set_cons_succ])); (with_reducible apply qw_skip; (kernel_rfl); (try simp only [Act.put, List.getElem_toArray, List.getElem_cons_succ, List.getElem_cons_zero, List.setIfInBounds_toArray, List.set_cons_zero, List.set_cons_succ])); (with_reducible apply qw_skip; (kernel_rfl); (try simp only [Act.put, List.getElem_toArray, List.getElem_cons_succ, List.getElem_cons_zero, List.setIfInBounds_toArray, List.set_cons_zero, List.set_cons_succ])); (with_reducible apply qw_skip; (kernel_rfl); (try simp only [Act.put, List.getElem_toArray, List.getElem_cons_succ, List.getElem_cons_zero, List.setIfInBounds_toArray, List.set_cons_zero, List.set_cons_succ])); (with_reducible apply qw_skip; (kernel_rfl); (try simp only [Act.put, List.getElem_toArray, List.getElem_cons_succ, List.getElem_cons_zero, List.setIfInBounds_toArray, List.set_cons_zero, List.set_cons_succ])); (with_reducible apply qw_skip; (kernel_rfl); (try simp only [Act.put, List.getElem_toArray, List.getElem_cons_succ, List.getElem_cons_zero, List.setIfInBounds_toArray, List.set_cons_zero, List.set_cons_succ])); (with_reducible apply qw_skip; (kernel_rfl); (try simp only [Act.put, List.getElem_toArray, List.getElem_cons_succ, List.getElem_cons_zero, List.setIfInBounds_toArray, List.set_cons_zero, List.set_cons_succ])); (with_reducible apply qw_skip; (kernel_rfl); (try simp only [Act.put, List.getElem_toArray, List.getElem_cons_succ, List.getElem_cons_zero, List.setIfInBounds_toArray, List.set_cons_zero, List.set_cons_succ])); (with_reducible apply qw_skip; (kernel_rfl); (try simp only [Act.put, List.getElem_toArray, List.getElem_cons_succ, List.getElem_cons_zero, List.setIfInBounds_toArray, List.set_cons_zero, List.set_cons_succ])); (with_reducible apply qw_skip; (kernel_rfl); (try simp only [Act.put, List.getElem_toArray, List.getElem_cons_succ, List.getElem_cons_zero, List.setIfInBounds_toArray, List.set_cons_zero, List.set_cons_succ])); (with_reducible apply qw_skip; (kernel_rfl); (try simp only [Act.put, List.getElem_toArray, List.getElem_cons_succ, List.getElem_cons_zero, List.setIfInBounds_toArray, List.set_cons_zero, List.set_cons_succ])); (with_reducible apply qw_skip; (kernel_rfl); (try simp only [Act.put, List.getElem_toArray, List.getElem_cons_succ, List.getElem_cons_zero, List.setIfInBounds_toArray, List.set_cons_zero, List.set_cons_succ])); (with_reducible apply qw_skip; (kernel_rfl); (try simp only [Act.put, List.getElem_toArray, List.getElem_cons_succ, List.getElem_cons_zero, List.setIfInBounds_toArray, List.set_cons_zero, List.set_cons_succ])); (with_reducible apply qw_skip; (kernel_rfl); (try simp only [Act.put, List.getElem_toArray, List.getElem_cons_succ, List.getElem_cons_zero, List.setIfInBounds_toArray, List.set_cons_zero, List.set_cons_succ])); (with_reducible apply qw_skip; (kernel_rfl); (try simp only [Act.put, List.getElem_toArray, List.getElem_cons_succ, List.getElem_cons_zero, List.setIfInBounds_toArray, List.set_cons_zero, List.set_cons_succ])); (with_reducible apply qw_skip; (kernel_rfl); (try simp only [Act.put, List.getElem_toArray, List.getElem_cons_succ, List.getElem_cons_zero, List.setIfInBounds_toArray, List.set_cons_zero, List.set_cons_succ])); (with_reducible apply qw_skip; (kernel_rfl); (try simp only [Act.put, List.getElem_toArray, List.getElem_cons_succ, List.getElem_cons_zero, List.setIfInBounds_toArray, List.set_cons_zero, List.set_cons_succ])); (with_reducible apply qw_skip; (kernel_rfl); (try simp only [Act.put, List.getElem_toArray, List.getElem_cons_succ, List.getElem_cons_zero, List.setIfInBounds_toArray, List.set_cons_zero, List.set_cons_succ])); (with_reducible apply qw_skip; (kernel_rfl); (try simp only [Act.put, List.getElem_toArray, List.getElem_cons_succ, List.getElem_cons_zero, List.setIfInBounds_toArray, List.set_cons_zero, List.set_cons_succ])); (with_reducible apply qw_skip; (kernel_rfl); (try simp only [Act.put, List.getElem_toArray, List.getElem_cons_succ, List.getElem_cons_zero, List.setIfInBounds_toArray, List.set_cons_zero, List.set_cons_succ])); (with_reducible apply qw_skip; (kernel_rfl); (try simp only [Act.put, List.getElem_toArray, List.getElem_cons_succ, List.getElem_cons_zero, List.setIfInBounds_toArray, List.set_cons_zero, List.set_cons_succ])); (with_reducible apply qw_skip; (kernel_rfl); (try simp only [Act.put, List.getElem_toArray, List.getElem_cons_succ, List.getElem_cons_zero, List.setIfInBounds_toArray, List.set_cons_zero, List.set_cons_succ])); (with_reducible apply qw_skip; (kernel_rfl); (try simp only [Act.put, List.getElem_toArray, List.getElem_cons_succ, List.getElem_cons_zero, List.setIfInBounds_toArray, List.set_cons_zero, List.set_cons_succ])); (with_reducible apply qw_do; (kernel_rfl); (focus (intro W hC; (have q8 := (Blk.via hC (by simp) B8).cell); go_simp; (first | ((go_at_call 32; refine (HPo.out _ hC).mono ?_; rintro e w2 ⟨rfl, hf⟩; exact ⟨rfl, hC.trans hf⟩)) | done | rfl | exact ⟨rfl, rfl⟩))); (try simp only [Act.put, List.getElem_toArray, List.getElem_cons_succ, List.getElem_cons_zero, List.setIfInBounds_toArray, List.set_cons_zero, List.set_cons_succ])); (with_reducible apply qw_do; (kernel_rfl); (focus (intro W hC; (have q8 := (Blk.via hC (by simp) B8).cell); go_simp; (first | ((go_at_call 32; refine (HPo.out _ hC).mono ?_; rintro e w2 ⟨rfl, hf⟩; exact ⟨rfl, hC.trans hf⟩)) | done | rfl | exact ⟨rfl, rfl⟩))); (try simp only [Act.put, List.getElem_toArray, List.getElem_cons_succ, List.getElem_cons_zero, List.setIfInBounds_toArray, List.set_cons_zero, List.set_cons_succ])); (with_reducible apply qw_do; (kernel_rfl); (focus (intro W hC; (have q8 := (Blk.via hC (by simp) B8).cell); go_simp; (first | ((go_at_call 32; refine (HPo.out _ hC).mono ?_; rintro e w2 ⟨rfl, hf⟩; exact ⟨rfl, hC.trans hf⟩)) | done | rfl | exact ⟨rfl, rfl⟩))); (try simp only [Act.put, List.getElem_toArray, List.getElem_cons_succ, List.getElem_cons_zero, List.setIfInBounds_toArray, List.set_cons_zero, List.set_cons_succ])); (with_reducible apply qw_do; (kernel_rfl); (focus (intro W hC; (have q8 := (Blk.via hC (by simp) B8).cell); go_simp; (first | ((go_at_call 32; refine (HPo.out _ hC).mono ?_; rintro e w2 ⟨rfl, hf⟩; exact ⟨rfl, hC.trans hf⟩)) | done | rfl | exact ⟨rfl, rfl⟩))); (try simp only [Act.put, List.getElem_toArray, List.getElem_cons_succ, List.getElem_cons_zero, List.setIfInBounds_toArray, List.set_cons_zero, List.set_cons_succ])); (with_reducible apply qw_do; (kernel_rfl); (focus (intro W hC; (have q8 := (Blk.via hC (by simp) B8).cell); go_simp; (first | ((go_at_call 32; refine (HPo.out _ hC).mono ?_; rintro e w2 ⟨rfl, hf⟩; exact ⟨rfl, hC.trans hf⟩)) | done | rfl | exact ⟨rfl, rfl⟩))); (try simp only [Act.put, List.getElem_toArray, List.getElem_cons_succ, List.getElem_cons_zero, List.setIfInBounds_toArray, List.set_cons_zero, List.set_cons_succ])); (with_reducible apply qw_do; (kernel_rfl); (focus (intro W hC; (have q8 := (Blk.via hC (by simp) B8).cell); go_simp; (first | ((go_at_call 32; refine (HPo.out _ hC).mono ?_; rintro e w2 ⟨rfl, hf⟩; exact ⟨rfl, hC.trans hf⟩)) | done | rfl | exact ⟨rfl, rfl⟩))); (try simp only [Act.put, List.getElem_toArray, List.getElem_cons_succ, List.getElem_cons_zero, List.setIfInBounds_toArray, List.set_cons_zero, List.set_cons_succ])); (with_reducible apply qw_do; (kernel_rfl); (focus (intro W hC; (have q8 := (Blk.via hC (by simp) B8).cell); go_simp; (first | ((go_at_call 32; refine (HPo.out _ hC).mono ?_; rintro e w2 ⟨rfl, hf⟩; exact ⟨rfl, hC.trans hf⟩)) | done | rfl | exact ⟨rfl, rfl⟩))); (try simp only [Act.put, List.getElem_toArray, List.getElem_cons_succ, List.getElem_cons_zero, List.setIfInBounds_toArray, List.set_cons_zero, List.set_cons_succ])); with_reducible refine qw_nil ?_
                    intro w10 F10
                    have O10 := O8.fr F10
                    have B10 := Blk.via F10 (by simp) B8
                    have C10 := Blk.via F10 (by simp) C8
                    have q8 := B10.cell
                    have hneq := neq_ord
                    clear HPo O8 B8 C8 F10
                    go_wp2_with fail
                    refine (ownBook_remove O10 o HOL.out).mono ?_
                    rintro e w11 ⟨rfl, O11, F11⟩
                    have B11 := Blk.via F11 (fun h => hxD _ h rfl) B10
                    have C11 := Blk.via F11 (fun h => hgD _ h rfl) C10
                    have q9 := B11.cell
                    have hl9 := B11.lt
                    obtain ⟨hY7, hl7⟩ := rmv_head O10.2.1.goodL HY6.out
                    have HY7 := Lib.hid hY7
                    have HL7 := Lib.hid hl7
                    clear q8 O10 B10 C10 F11 hY7 hl7
                    go_wp2_with (refine wpList_storeO rfl (.tmp 8) (.tmp 110) rfl g _ o rfl rfl (C11.alloc _) rfl ?_
                                 intro w12 C12 F12)
                    go_roundw
                    case rel => exact ⟨0 + 1, rmv o.id L2, o, Y3, by omega, by have := HL7.out; congr 1; omega, by simp, ⟨fr_own hgw (O11.1.alloc _) F12, (O11.2.1.fr ((Fr.refl [] w11).alloc _) (by simp)).fr F12 (fun y hy h => hgD y hy (List.mem_singleton.1 h)), O11.2.2⟩, C12, HI6.out.rmv _, fun y hy => HSD6.out y (List.mem_filter.1 hy).1, HY7.out, by simp at hmY; omega, fun _ => (List.pairwise_cons.1 (HI6.out.side HY6.out)).1⟩
                    case measure => simp [intOf] <;> omega
                  · have m1 : (0 : Int) < (m : Int) := by omega
                    have HBo := Lib.hid (HB.out h0)
                    clear HB HPl
                    have e1 : (o.pr == last.pr) = false := by simpa using hne
                    refine qw_region (by kernel_rfl) (by kernel_rfl) ?_; (with_reducible apply qw_do; (kernel_rfl); (focus (intro W hC; (have q8 := (Blk.via hC (by simp) B8).cell; have q7 := (Blk.via hC (by simp) C8).cell); go_simp; (first | (first | (go_at_call 32; refine (HPo.out _ hC).mono ?_; rintro e w2 ⟨rfl, hf⟩; exact ⟨rfl, hC.trans hf⟩) | (go_at_call 31; refine (HBo.out _).mono ?_; rintro e w2 ⟨rfl, rfl⟩; exact ⟨rfl, hC⟩)) | done | rfl | exact ⟨rfl, rfl⟩))); (try simp only [Act.put, List.getElem_toArray, List.getElem_cons_succ, List.getElem_cons_zero, List.setIfInBounds_toArray, List.set_cons_zero, List.set_cons_succ])); (with_reducible apply qw_do; (kernel_rfl); (focus (intro W hC; (have q8 := (Blk.via hC (by simp) B8).cell; have q7 := (Blk.via hC (by simp) C8).cell); go_simp; (first | (first | (go_at_call 32; refine (HPo.out _ hC).mono ?_; rintro e w2 ⟨rfl, hf⟩; exact ⟨rfl, hC.trans hf⟩) | (go_at_call 31; refine (HBo.out _).mono ?_; rintro e w2 ⟨rfl, rfl⟩; exact ⟨rfl, hC⟩)) | done | rfl | exact ⟨rfl, rfl⟩))); (try simp only [Act.put, List.getElem_toArray, List.getElem_cons_succ, List.getElem_cons_zero, List.setIfInBounds_toArray, List.set_cons_zero, List.set_cons_succ])); (with_reducible apply qw_do; (kernel_rfl); (focus (intro W hC; (have q8 := (Blk.via hC (by simp) B8).cell; have q7 := (Blk.via hC (by simp) C8).cell); go_simp; (first | (first | (go_at_call 32; refine (HPo.out _ hC).mono ?_; rintro e w2 ⟨rfl, hf⟩; exact ⟨rfl, hC.trans hf⟩) | (go_at_call 31; refine (HBo.out _).mono ?_; rintro e w2 ⟨rfl, rfl⟩; exact ⟨rfl, hC⟩)) | done | rfl | exact ⟨rfl, rfl⟩))); (try simp only [Act.put, List.getElem_toArray, List.getElem_cons_succ, List.getElem_cons_zero, List.setIfInBounds_toArray, List.set_cons_zero, List.set_cons_succ])); (with_reducible apply qw_do; (kernel_rfl); (focus (intro W hC; (have q8 := (Blk.via hC (by simp) B8).cell; have q7 := (Blk.via hC (by simp) C8).cell); go_simp; (first | (first | (go_at_call 32; refine (HPo.out _ hC).mono ?_; rintro e w2 ⟨rfl, hf⟩; exact ⟨rfl, hC.trans hf⟩) | (go_at_call 31; refine (HBo.out _).mono ?_; rintro e w2 ⟨rfl, rfl⟩; exact ⟨rfl, hC⟩)) | done | rfl | exact ⟨rfl, rfl⟩))); (try simp only [Act.put, List.getElem_toArray, List.getElem_cons_succ, List.getElem_cons_zero, List.setIfInBounds_toArray, List.set_cons_zero, List.set_cons_succ])); (with_reducible apply qw_do; (kernel_rfl); (focus (intro W hC; (have q8 := (Blk.via hC (by simp) B8).cell; have q7 := (Blk.via hC (by simp) C8).cell); go_simp; (first | (first | (go_at_call 32; refine (HPo.out _ hC).mono ?_; rintro e w2 ⟨rfl, hf⟩; exact ⟨rfl, hC.trans hf⟩) | (go_at_call 31; refine (HBo.out _).mono ?_; rintro e w2 ⟨rfl, rfl⟩; exact ⟨rfl, hC⟩)) | done | rfl | exact ⟨rfl, rfl⟩))); (try simp only [Act.put, List.getElem_toArray, List.getElem_cons_succ, List.getElem_cons_zero, List.setIfInBounds_toArray, List.set_cons_zero, List.set_cons_succ])); (with_reducible apply qw_do; (kernel_rfl); (focus (intro W hC; (have q8 := (Blk.via hC (by simp) B8).cell; have q7 := (Blk.via hC (by simp) C8).cell); go_simp; (first | (first | (go_at_call 32; refine (HPo.out _ hC).mono ?_; rintro e w2 ⟨rfl, hf⟩; exact ⟨rfl, hC.trans hf⟩) | (go_at_call 31; refine (HBo.out _).mono ?_; rintro e w2 ⟨rfl, rfl⟩; exact ⟨rfl, hC⟩)) | done | rfl | exact ⟨rfl, rfl⟩))); (try simp only [Act.put, List.getElem_toArray, List.getElem_cons_succ, List.getElem_cons_zero, List.setIfInBounds_toArray, List.set_cons_zero, List.set_cons_succ])); (with_reducible apply qw_do; (kernel_rfl); (focus (intro W hC; (have q8 := (Blk.via hC (by simp) B8).cell; have q7 := (Blk.via hC (by simp) C8).cell); go_simp; (first | (first | (go_at_call 32; refine (HPo.out _ hC).mono ?_; rintro e w2 ⟨rfl, hf⟩; exact ⟨rfl, hC.trans hf⟩) | (go_at_call 31; refine (HBo.out _).mono ?_; rintro e w2 ⟨rfl, rfl⟩; exact ⟨rfl, hC⟩)) | done | rfl | exact ⟨rfl, rfl⟩))); (try simp only [Act.put, List.getElem_toArray, List.getElem_cons_succ, List.getElem_cons_zero, List.setIfInBounds_toArray, List.set_cons_zero, List.set_cons_succ])); (with_reducible apply qw_do; (kernel_rfl); (focus (intro W hC; (have q8 := (Blk.via hC (by simp) B8).cell; have q7 := (Blk.via hC (by simp) C8).cell); go_simp; (first | (first | (go_at_call 32; refine (HPo.out _ hC).mono ?_; rintro e w2 ⟨rfl, hf⟩; exact ⟨rfl, hC.trans hf⟩) | (go_at_call 31; refine (HBo.out _).mono ?_; rintro e w2 ⟨rfl, rfl⟩; exact ⟨rfl, hC⟩)) | done | rfl | exact ⟨rfl, rfl⟩))); (try simp only [Act.put, List.getElem_toArray, List.getElem_cons_succ, List.getElem_cons_zero, List.setIfInBounds_toArray, List.set_cons_zero, List.set_cons_succ])); (with_reducible apply qw_do; (kernel_rfl); (focus (intro W hC; (have q8 := (Blk.via hC (by simp) B8).cell; have q7 := (Blk.via hC (by simp) C8).cell); go_simp; (first | (first | (go_at_call 32; refine (HPo.out _ hC).mono ?_; rintro e w2 ⟨rfl, hf⟩; exact ⟨rfl, hC.trans hf⟩) | (go_at_call 31; refine (HBo.out _).mono ?_; rintro e w2 ⟨rfl, rfl⟩; exact ⟨rfl, hC⟩)) | done | rfl | exact ⟨rfl, rfl⟩))); (try simp only [Act.put, List.getElem_toArray, List.getElem_cons_succ, List.getElem_cons_zero, List.setIfInBounds_toArray, List.set_cons_zero, List.set_cons_succ])); (with_reducible apply qw_do; (kernel_rfl); (focus (intro W hC; (have q8 := (Blk.via hC (by simp) B8).cell; have q7 := (Blk.via hC (by simp) C8).cell); go_simp; (first | (first | (go_at_call 32; refine (HPo.out _ hC).mono ?_; rintro e w2 ⟨rfl, hf⟩; exact ⟨rfl, hC.trans hf⟩) | (go_at_call 31; refine (HBo.out _).mono ?_; rintro e w2 ⟨rfl, rfl⟩; exact ⟨rfl, hC⟩)) | done | rfl | exact ⟨rfl, rfl⟩))); (try simp only [Act.put, List.getElem_toArray, List.getElem_cons_succ, List.getElem_cons_zero, List.setIfInBounds_toArray, List.set_cons_zero, List.set_cons_succ])); (with_reducible apply qw_do; (kernel_rfl); (focus (intro W hC; (have q8 := (Blk.via hC (by simp) B8).cell; have q7 := (Blk.via hC (by simp) C8).cell); go_simp; (first | (first | (go_at_call 32; refine (HPo.out _ hC).mono ?_; rintro e w2 ⟨rfl, hf⟩; exact ⟨rfl, hC.trans hf⟩) | (go_at_call 31; refine (HBo.out _).mono ?_; rintro e w2 ⟨rfl, rfl⟩; exact ⟨rfl, hC⟩)) | done | rfl | exact ⟨rfl, rfl⟩))); (try simp only [Act.put, List.getElem_toArray, List.getElem_cons_succ, List.getElem_cons_zero, List.setIfInBounds_toArray, List.set_cons_zero, List.set_cons_succ])); (with_reducible apply qw_do; (kernel_rfl); (focus (intro W hC; (have q8 := (Blk.via hC (by simp) B8).cell; have q7 := (Blk.via hC (by simp) C8).cell); go_simp; (first | (first | (go_at_call 32; refine (HPo.out _ hC).mono ?_; rintro e w2 ⟨rfl, hf⟩; exact ⟨rfl, hC.trans hf⟩) | (go_at_call 31; refine (HBo.out _).mono ?_; rintro e w2 ⟨rfl, rfl⟩; exact ⟨rfl, hC⟩)) | done | rfl | exact ⟨rfl, rfl⟩))); (try simp only [Act.put, List.getElem_toArray, List.getElem_cons_succ, List.getElem_cons_zero, List.setIfInBounds_toArray, List.set_cons_zero, List.set_cons_succ])); (with_reducible apply qw_do; (kernel_rfl); (focus (intro W hC; (have q8 := (Blk.via hC (by simp) B8).cell; have q7 := (Blk.via hC (by simp) C8).cell); go_simp; (first | (first | (go_at_call 32; refine (HPo.out _ hC).mono ?_; rintro e w2 ⟨rfl, hf⟩; exact ⟨rfl, hC.trans hf⟩) | (go_at_call 31; refine (HBo.out _).mono ?_; rintro e w2 ⟨rfl, rfl⟩; exact ⟨rfl, hC⟩)) | done | rfl | exact ⟨rfl, rfl⟩))); (try simp only [Act.put, List.getElem_toArray, List.getElem_cons_succ, List.getElem_cons_zero, List.setIfInBounds_toArray, List.set_cons_zero, List.set_cons_succ])); (with_reducible apply qw_do; (kernel_rfl); (focus (intro W hC; (have q8 := (Blk.via hC (by simp) B8).cell; have q7 := (Blk.via hC (by simp) C8).cell); go_simp; (first | (first | (go_at_call 32; refine (HPo.out _ hC).mono ?_; rintro e w2 ⟨rfl, hf⟩; exact ⟨rfl, hC.trans hf⟩) | (go_at_call 31; refine (HBo.out _).mono ?_; rintro e w2 ⟨rfl, rfl⟩; exact ⟨rfl, hC⟩)) | done | rfl | exact ⟨rfl, rfl⟩))); (try simp only [Act.put, List.getElem_toArray, List.getElem_cons_succ, List.getElem_cons_zero, List.setIfInBounds_toArray, List.set_cons_zero, List.set_cons_succ])); (with_reducible apply qw_do; (kernel_rfl); (focus (intro W hC; (have q8 := (Blk.via hC (by simp) B8).cell; have q7 := (Blk.via hC (by simp) C8).cell); go_simp; (first | (first | (go_at_call 32; refine (HPo.out _ hC).mono ?_; rintro e w2 ⟨rfl, hf⟩; exact ⟨rfl, hC.trans hf⟩) | (go_at_call 31; refine (HBo.out _).mono ?_; rintro e w2 ⟨rfl, rfl⟩; exact ⟨rfl, hC⟩)) | done | rfl | exact ⟨rfl, rfl⟩))); (try simp only [Act.put, List.getElem_toArray, List.getElem_cons_succ, List.getElem_cons_zero, List.setIfInBounds_toArray, List.set_cons_zero, List.set_cons_succ])); (with_reducible apply qw_do; (kernel_rfl); (focus (intro W hC; (have q8 := (Blk.via hC (by simp) B8).cell; have q7 := (Blk.via hC (by simp) C8).cell); go_simp; (first | (first | (go_at_call 32; refine (HPo.out _ hC).mono ?_; rintro e w2 ⟨rfl, hf⟩; exact ⟨rfl, hC.trans hf⟩) | (go_at_call 31; refine (HBo.out _).mono ?_; rintro e w2 ⟨rfl, rfl⟩; exact ⟨rfl, hC⟩)) | done | rfl | exact ⟨rfl, rfl⟩))); (try simp only [Act.put, List.getElem_toArray, List.getElem_cons_succ, List.getElem_cons_zero, List.setIfInBounds_toArray, List.set_cons_zero, List.set_cons_succ])); (with_reducible apply qw_skip; (kernel_rfl); (try simp only [Act.put, List.getElem_toArray, List.getElem_cons_succ, List.getElem_cons_zero, List.setIfInBounds_toArray, List.set_cons_zero, List.set_cons_succ])); (with_reducible apply qw_skip; (kernel_rfl); (try simp only [Act.put, List.getElem_toArray, List.getElem_cons_succ, List.getElem_cons_zero, List.setIfInBounds_toArray, List.set_cons_zero, List.set_cons_succ])); (with_reducible apply qw_skip; (kernel_rfl); (try simp only [Act.put, List.getElem_toArray, List.getElem_cons_succ, List.getElem_cons_zero, List.setIfInBounds_toArray, List.set_cons_zero, List.set_cons_succ])); (with_reducible apply qw_skip; (kernel_rfl); (try simp only [Act.put, List.getElem_toArray, List.getElem_cons_succ, List.getElem_cons_zero, List.setIfInBounds_toArray, List.set_cons_zero, List.set_cons_succ])); (with_reducible apply qw_skip; (kernel_rfl); (try simp only [Act.put, List.getElem_toArray, List.getElem_cons_succ, List.getElem_cons_zero, List.setIfInBounds_toArray, List.set_cons_zero, List.set_cons_succ])); (with_reducible apply qw_skip; (kernel_rfl); (try simp only [Act.put, List.getElem_toArray, List.getElem_cons_succ, List.getElem_cons_zero, List.setIfInBounds_toArray, List.set_cons_zero, List.set_cons_succ])); (with_reducible apply qw_skip; (kernel_rfl); (try simp only [Act.put, List.getElem_toArray, List.getElem_cons_succ, List.getElem_cons_zero, List.setIfInBounds_toArray, List.set_cons_zero, List.set_cons_succ])); (with_reducible apply qw_do; (kernel_rfl); (focus (intro W hC; (have q8 := (Blk.via hC (by simp) B8).cell; have q7 := (Blk.via hC (by simp) C8).cell); go_simp; (first | (first | (go_at_call 32; refine (HPo.out _ hC).mono ?_; rintro e w2 ⟨rfl, hf⟩; exact ⟨rfl, hC.trans hf⟩) | (go_at_call 31; refine (HBo.out _).mono ?_; rintro e w2 ⟨rfl, rfl⟩; exact ⟨rfl, hC⟩)) | done | rfl | exact ⟨rfl, rfl⟩))); (try simp only [Act.put, List.getElem_toArray, List.getElem_cons_succ, List.getElem_cons_zero, List.setIfInBounds_toArray, List.set_cons_zero, List.set_cons_succ])); (with_reducible apply qw_do; (kernel_rfl); (focus (intro W hC; (have q8 := (Blk.via hC (by simp) B8).cell; have q7 := (Blk.via hC (by simp) C8).cell); go_simp; (first | (first | (go_at_call 32; refine (HPo.out _ hC).mono ?_; rintro e w2 ⟨rfl, hf⟩; exact ⟨rfl, hC.trans hf⟩) | (go_at_call 31; refine (HBo.out _).mono ?_; rintro e w2 ⟨rfl, rfl⟩; exact ⟨rfl, hC⟩)) | done | rfl | exact ⟨rfl, rfl⟩))); (try simp only [Act.put, List.getElem_toArray, List.getElem_cons_succ, List.getElem_cons_zero, List.setIfInBounds_toArray, List.set_cons_zero, List.set_cons_succ])); (with_reducible apply qw_do; (kernel_rfl); (focus (intro W hC; (have q8 := (Blk.via hC (by simp) B8).cell; have q7 := (Blk.via hC (by simp) C8).cell); go_simp; (first | (first | (go_at_call 32; refine (HPo.out _ hC).mono ?_; rintro e w2 ⟨rfl, hf⟩; exact ⟨rfl, hC.trans hf⟩) | (go_at_call 31; refine (HBo.out _).mono ?_; rintro e w2 ⟨rfl, rfl⟩; exact ⟨rfl, hC⟩)) | done | rfl | exact ⟨rfl, rfl⟩))); (try simp only [Act.put, List.getElem_toArray, List.getElem_cons_succ, List.getElem_cons_zero, List.setIfInBounds_toArray, List.set_cons_zero, List.set_cons_succ])); (with_reducible apply qw_do; (kernel_rfl); (focus (intro W hC; (have q8 := (Blk.via hC (by simp) B8).cell; have q7 := (Blk.via hC (by simp) C8).cell); go_simp; (first | (first | (go_at_call 32; refine (HPo.out _ hC).mono ?_; rintro e w2 ⟨rfl, hf⟩; exact ⟨rfl, hC.trans hf⟩) | (go_at_call 31; refine (HBo.out _).mono ?_; rintro e w2 ⟨rfl, rfl⟩; exact ⟨rfl, hC⟩)) | done | rfl | exact ⟨rfl, rfl⟩))); (try simp only [Act.put, List.getElem_toArray, List.getElem_cons_succ, List.getElem_cons_zero, List.setIfInBounds_toArray, List.set_cons_zero, List.set_cons_succ])); (with_reducible apply qw_do; (kernel_rfl); (focus (intro W hC; (have q8 := (Blk.via hC (by simp) B8).cell; have q7 := (Blk.via hC (by simp) C8).cell); go_simp; (first | (first | (go_at_call 32; refine (HPo.out _ hC).mono ?_; rintro e w2 ⟨rfl, hf⟩; exact ⟨rfl, hC.trans hf⟩) | (go_at_call 31; refine (HBo.out _).mono ?_; rintro e w2 ⟨rfl, rfl⟩; exact ⟨rfl, hC⟩)) | done | rfl | exact ⟨rfl, rfl⟩))); (try simp only [Act.put, List.getElem_toArray, List.getElem_cons_succ, List.getElem_cons_zero, List.setIfInBounds_toArray, List.set_cons_zero, List.set_cons_succ])); (with_reducible apply qw_do; (kernel_rfl); (focus (intro W hC; (have q8 := (Blk.via hC (by simp) B8).cell; have q7 := (Blk.via hC (by simp) C8).cell); go_simp; (first | (first | (go_at_call 32; refine (HPo.out _ hC).mono ?_; rintro e w2 ⟨rfl, hf⟩; exact ⟨rfl, hC.trans hf⟩) | (go_at_call 31; refine (HBo.out _).mono ?_; rintro e w2 ⟨rfl, rfl⟩; exact ⟨rfl, hC⟩)) | done | rfl | exact ⟨rfl, rfl⟩))); (try simp only [Act.put, List.getElem_toArray, List.getElem_cons_succ, List.getElem_cons_zero, List.setIfInBounds_toArray, List.set_cons_zero, List.set_cons_succ])); (with_reducible apply qw_do; (kernel_rfl); (focus (intro W hC; (have q8 := (Blk.via hC (by simp) B8).cell; have q7 := (Blk.via hC (by simp) C8).cell); go_simp; (first | (first | (go_at_call 32; refine (HPo.out _ hC).mono ?_; rintro e w2 ⟨rfl, hf⟩; exact ⟨rfl, hC.trans hf⟩) | (go_at_call 31; refine (HBo.out _).mono ?_; rintro e w2 ⟨rfl, rfl⟩; exact ⟨rfl, hC⟩)) | done | rfl | exact ⟨rfl, rfl⟩))); (try simp only [Act.put, List.getElem_toArray, List.getElem_cons_succ, List.getElem_cons_zero, List.setIfInBounds_toArray, List.set_cons_zero, List.set_cons_succ])); (with_reducible apply qw_do; (kernel_rfl); (focus (intro W hC; (have q8 := (Blk.via hC (by simp) B8).cell; have q7 := (Blk.via hC (by simp) C8).cell); go_simp; (first | (first | (go_at_call 32; refine (HPo.out _ hC).mono ?_; rintro e w2 ⟨rfl, hf⟩; exact ⟨rfl, hC.trans hf⟩) | (go_at_call 31; refine (HBo.out _).mono ?_; rintro e w2 ⟨rfl, rfl⟩; exact ⟨rfl, hC⟩)) | done | rfl | exact ⟨rfl, rfl⟩))); (try simp only [Act.put, List.getElem_toArray, List.getElem_cons_succ, List.getElem_cons_zero, List.setIfInBounds_toArray, List.set_cons_zero, List.set_cons_succ])); (with_reducible apply qw_do; (kernel_rfl); (focus (intro W hC; (have q8 := (Blk.via hC (by simp) B8).cell; have q7 := (Blk.via hC (by simp) C8).cell); go_simp; (first | (first | (go_at_call 32; refine (HPo.out _ hC).mono ?_; rintro e w2 ⟨rfl, hf⟩; exact ⟨rfl, hC.trans hf⟩) | (go_at_call 31; refine (HBo.out _).mono ?_; rintro e w2 ⟨rfl, rfl⟩; exact ⟨rfl, hC⟩)) | done | rfl | exact ⟨rfl, rfl⟩))); (try simp only [Act.put, List.getElem_toArray, List.getElem_cons_succ, List.getElem_cons_zero, List.setIfInBounds_toArray, List.set_cons_zero, List.set_cons_succ])); with_reducible refine qw_nil ?_
                    intro w10 F10
                    have O10 := O8.fr F10
                    have B10 := Blk.via F10 (by simp) B8
                    have C10 := Blk.via F10 (by simp) C8
                    have q8 := B10.cell
                    have hneq := neq_ord
                    clear HPo O8 B8 C8 F10
                    go_wp2_with fail
                    refine (ownBook_remove O10 o HOL.out).mono ?_
                    rintro e w11 ⟨rfl, O11, F11⟩
                    have B11 := Blk.via F11 (fun h => hxD _ h rfl) B10
                    have C11 := Blk.via F11 (fun h => hgD _ h rfl) C10
                    have q9 := B11.cell
                    have hl9 := B11.lt
                    obtain ⟨hY7, hl7⟩ := rmv_head O10.2.1.goodL HY6.out
                    have HY7 := Lib.hid hY7
                    have HL7 := Lib.hid hl7
                    clear q8 O10 B10 C10 F11 hY7 hl7
                    go_wp2_with (refine wpList_storeO rfl (.tmp 8) (.tmp 110) rfl g _ o rfl rfl (C11.alloc _) rfl ?_
                                 intro w12 C12 F12)
                    go_roundw
                    case rel => exact ⟨m + 1, rmv o.id L2, o, Y3, by omega, by have := HL7.out; congr 1; omega, by simp, ⟨fr_own hgw (O11.1.alloc _) F12, (O11.2.1.fr ((Fr.refl [] w11).alloc _) (by simp)).fr F12 (fun y hy h => hgD y hy (List.mem_singleton.1 h)), O11.2.2⟩, C12, HI6.out.rmv _, fun y hy => HSD6.out y (List.mem_filter.1 hy).1, HY7.out, by simp at hmY; omega, fun _ => (List.pairwise_cons.1 (HI6.out.side HY6.out)).1⟩
                    case measure => simp [intOf] <;> omega
                  · have m1 : (0 : Int) < (m : Int) := by omega
                    have HBo := Lib.hid (HB.out h0)
                    have hpl := ((HLA.out h0 o (by simp)).2 heq.symm)
                    have hpn : ¬ plcF F0 o k < plcF F0 last k := by omega
                    have e1 : (o.pr == last.pr) = true := by simpa using heq
                    clear HB hpl heq
                    refine qw_region (by kernel_rfl) (by kernel_rfl) ?_; (with_reducible apply qw_do; (kernel_rfl); (focus (intro W hC; (have q8 := (Blk.via hC (by simp) B8).cell; have q7 := (Blk.via hC (by simp) C8).cell); go_simp; (first | (first | (go_at_call 32; refine (HPo.out _ hC).mono ?_; rintro e w2 ⟨rfl, hf⟩; exact ⟨rfl, hC.trans hf⟩) | (go_at_call 32; refine (HPl.out _ hC).mono ?_; rintro e w2 ⟨rfl, hf⟩; exact ⟨rfl, hC.trans hf⟩) | (go_at_call 31; refine (HBo.out _).mono ?_; rintro e w2 ⟨rfl, rfl⟩; exact ⟨rfl, hC⟩)) | done | rfl | exact ⟨rfl, rfl⟩))); (try simp only [Act.put, List.getElem_toArray, List.getElem_cons_succ, List.getElem_cons_zero, List.setIfInBounds_toArray, List.set_cons_zero, List.set_cons_succ])); (with_reducible apply qw_do; (kernel_rfl); (focus (intro W hC; (have q8 := (Blk.via hC (by simp) B8).cell; have q7 := (Blk.via hC (by simp) C8).cell); go_simp; (first | (first | (go_at_call 32; refine (HPo.out _ hC).mono ?_; rintro e w2 ⟨rfl, hf⟩; exact ⟨rfl, hC.trans hf⟩) | (go_at_call 32; refine (HPl.out _ hC).mono ?_; rintro e w2 ⟨rfl, hf⟩; exact ⟨rfl, hC.trans hf⟩) | (go_at_call 31; refine (HBo.out _).mono ?_; rintro e w2 ⟨rfl, rfl⟩; exact ⟨rfl, hC⟩)) | done | rfl | exact ⟨rfl, rfl⟩))); (try simp only [Act.put, List.getElem_toArray, List.getElem_cons_succ, List.getElem_cons_zero, List.setIfInBounds_toArray, List.set_cons_zero, List.set_cons_succ])); (with_reducible apply qw_do; (kernel_rfl); (focus (intro W hC; (have q8 := (Blk.via hC (by simp) B8).cell; have q7 := (Blk.via hC (by simp) C8).cell); go_simp; (first | (first | (go_at_call 32; refine (HPo.out _ hC).mono ?_; rintro e w2 ⟨rfl, hf⟩; exact ⟨rfl, hC.trans hf⟩) | (go_at_call 32; refine (HPl.out _ hC).mono ?_; rintro e w2 ⟨rfl, hf⟩; exact ⟨rfl, hC.trans hf⟩) | (go_at_call 31; refine (HBo.out _).mono ?_; rintro e w2 ⟨rfl, rfl⟩; exact ⟨rfl, hC⟩)) | done | rfl | exact ⟨rfl, rfl⟩))); (try simp only [Act.put, List.getElem_toArray, List.getElem_cons_succ, List.getElem_cons_zero, List.setIfInBounds_toArray, List.set_cons_zero, List.set_cons_succ])); (with_reducible apply qw_do; (kernel_rfl); (focus (intro W hC; (have q8 := (Blk.via hC (by simp) B8).cell; have q7 := (Blk.via hC (by simp) C8).cell); go_simp; (first | (first | (go_at_call 32; refine (HPo.out _ hC).mono ?_; rintro e w2 ⟨rfl, hf⟩; exact ⟨rfl, hC.trans hf⟩) | (go_at_call 32; refine (HPl.out _ hC).mono ?_; rintro e w2 ⟨rfl, hf⟩; exact ⟨rfl, hC.trans hf⟩) | (go_at_call 31; refine (HBo.out _).mono ?_; rintro e w2 ⟨rfl, rfl⟩; exact ⟨rfl, hC⟩)) | done | rfl | exact ⟨rfl, rfl⟩))); (try simp only [Act.put, List.getElem_toArray, List.getElem_cons_succ, List.getElem_cons_zero, List.setIfInBounds_toArray, List.set_cons_zero, List.set_cons_succ])); (with_reducible apply qw_do; (kernel_rfl); (focus (intro W hC; (have q8 := (Blk.via hC (by simp) B8).cell; have q7 := (Blk.via hC (by simp) C8).cell); go_simp; (first | (first | (go_at_call 32; refine (HPo.out _ hC).mono ?_; rintro e w2 ⟨rfl, hf⟩; exact ⟨rfl, hC.trans hf⟩) | (go_at_call 32; refine (HPl.out _ hC).mono ?_; rintro e w2 ⟨rfl, hf⟩; exact ⟨rfl, hC.trans hf⟩) | (go_at_call 31; refine (HBo.out _).mono ?_; rintro e w2 ⟨rfl, rfl⟩; exact ⟨rfl, hC⟩)) | done | rfl | exact ⟨rfl, rfl⟩))); (try simp only [Act.put, List.getElem_toArray, List.getElem_cons_succ, List.getElem_cons_zero, List.setIfInBounds_toArray, List.set_cons_zero, List.set_cons_succ])); (with_reducible apply qw_do; (kernel_rfl); (focus (intro W hC; (have q8 := (Blk.via hC (by simp) B8).cell; have q7 := (Blk.via hC (by simp) C8).cell); go_simp; (first | (first | (go_at_call 32; refine (HPo.out _ hC).mono ?_; rintro e w2 ⟨rfl, hf⟩; exact ⟨rfl, hC.trans hf⟩) | (go_at_call 32; refine (HPl.out _ hC).mono ?_; rintro e w2 ⟨rfl, hf⟩; exact ⟨rfl, hC.trans hf⟩) | (go_at_call 31; refine (HBo.out _).mono ?_; rintro e w2 ⟨rfl, rfl⟩; exact ⟨rfl, hC⟩)) | done | rfl | exact ⟨rfl, rfl⟩))); (try simp only [Act.put, List.getElem_toArray, List.getElem_cons_succ, List.getElem_cons_zero, List.setIfInBounds_toArray, List.set_cons_zero, List.set_cons_succ])); (with_reducible apply qw_do; (kernel_rfl); (focus (intro W hC; (have q8 := (Blk.via hC (by simp) B8).cell; have q7 := (Blk.via hC (by simp) C8).cell); go_simp; (first | (first | (go_at_call 32; refine (HPo.out _ hC).mono ?_; rintro e w2 ⟨rfl, hf⟩; exact ⟨rfl, hC.trans hf⟩) | (go_at_call 32; refine (HPl.out _ hC).mono ?_; rintro e w2 ⟨rfl, hf⟩; exact ⟨rfl, hC.trans hf⟩) | (go_at_call 31; refine (HBo.out _).mono ?_; rintro e w2 ⟨rfl, rfl⟩; exact ⟨rfl, hC⟩)) | done | rfl | exact ⟨rfl, rfl⟩))); (try simp only [Act.put, List.getElem_toArray, List.getElem_cons_succ, List.getElem_cons_zero, List.setIfInBounds_toArray, List.set_cons_zero, List.set_cons_succ])); (with_reducible apply qw_do; (kernel_rfl); (focus (intro W hC; (have q8 := (Blk.via hC (by simp) B8).cell; have q7 := (Blk.via hC (by simp) C8).cell); go_simp; (first | (first | (go_at_call 32; refine (HPo.out _ hC).mono ?_; rintro e w2 ⟨rfl, hf⟩; exact ⟨rfl, hC.trans hf⟩) | (go_at_call 32; refine (HPl.out _ hC).mono ?_; rintro e w2 ⟨rfl, hf⟩; exact ⟨rfl, hC.trans hf⟩) | (go_at_call 31; refine (HBo.out _).mono ?_; rintro e w2 ⟨rfl, rfl⟩; exact ⟨rfl, hC⟩)) | done | rfl | exact ⟨rfl, rfl⟩))); (try simp only [Act.put, List.getElem_toArray, List.getElem_cons_succ, List.getElem_cons_zero, List.setIfInBounds_toArray, List.set_cons_zero, List.set_cons_succ])); (with_reducible apply qw_do; (kernel_rfl); (focus (intro W hC; (have q8 := (Blk.via hC (by simp) B8).cell; have q7 := (Blk.via hC (by simp) C8).cell); go_simp; (first | (first | (go_at_call 32; refine (HPo.out _ hC).mono ?_; rintro e w2 ⟨rfl, hf⟩; exact ⟨rfl, hC.trans hf⟩) | (go_at_call 32; refine (HPl.out _ hC).mono ?_; rintro e w2 ⟨rfl, hf⟩; exact ⟨rfl, hC.trans hf⟩) | (go_at_call 31; refine (HBo.out _).mono ?_; rintro e w2 ⟨rfl, rfl⟩; exact ⟨rfl, hC⟩)) | done | rfl | exact ⟨rfl, rfl⟩))); (try simp only [Act.put, List.getElem_toArray, List.getElem_cons_succ, List.getElem_cons_zero, List.setIfInBounds_toArray, List.set_cons_zero, List.set_cons_succ])); (with_reducible apply qw_do; (kernel_rfl); (focus (intro W hC; (have q8 := (Blk.via hC (by simp) B8).cell; have q7 := (Blk.via hC (by simp) C8).cell); go_simp; (first | (first | (go_at_call 32; refine (HPo.out _ hC).mono ?_; rintro e w2 ⟨rfl, hf⟩; exact ⟨rfl, hC.trans hf⟩) | (go_at_call 32; refine (HPl.out _ hC).mono ?_; rintro e w2 ⟨rfl, hf⟩; exact ⟨rfl, hC.trans hf⟩) | (go_at_call 31; refine (HBo.out _).mono ?_; rintro e w2 ⟨rfl, rfl⟩; exact ⟨rfl, hC⟩)) | done | rfl | exact ⟨rfl, rfl⟩))); (try simp only [Act.put, List.getElem_toArray, List.getElem_cons_succ, List.getElem_cons_zero, List.setIfInBounds_toArray, List.set_cons_zero, List.set_cons_succ])); (with_reducible apply qw_do; (kernel_rfl); (focus (intro W hC; (have q8 := (Blk.via hC (by simp) B8).cell; have q7 := (Blk.via hC (by simp) C8).cell); go_simp; (first | (first | (go_at_call 32; refine (HPo.out _ hC).mono ?_; rintro e w2 ⟨rfl, hf⟩; exact ⟨rfl, hC.trans hf⟩) | (go_at_call 32; refine (HPl.out _ hC).mono ?_; rintro e w2 ⟨rfl, hf⟩; exact ⟨rfl, hC.trans hf⟩) | (go_at_call 31; refine (HBo.out _).mono ?_; rintro e w2 ⟨rfl, rfl⟩; exact ⟨rfl, hC⟩)) | done | rfl | exact ⟨rfl, rfl⟩))); (try simp only [Act.put, List.getElem_toArray, List.getElem_cons_succ, List.getElem_cons_zero, List.setIfInBounds_toArray, List.set_cons_zero, List.set_cons_succ])); (with_reducible apply qw_do; (kernel_rfl); (focus (intro W hC; (have q8 := (Blk.via hC (by simp) B8).cell; have q7 := (Blk.via hC (by simp) C8).cell); go_simp; (first | (first | (go_at_call 32; refine (HPo.out _ hC).mono ?_; rintro e w2 ⟨rfl, hf⟩; exact ⟨rfl, hC.trans hf⟩) | (go_at_call 32; refine (HPl.out _ hC).mono ?_; rintro e w2 ⟨rfl, hf⟩; exact ⟨rfl, hC.trans hf⟩) | (go_at_call 31; refine (HBo.out _).mono ?_; rintro e w2 ⟨rfl, rfl⟩; exact ⟨rfl, hC⟩)) | done | rfl | exact ⟨rfl, rfl⟩))); (try simp only [Act.put, List.getElem_toArray, List.getElem_cons_succ, List.getElem_cons_zero, List.setIfInBounds_toArray, List.set_cons_zero, List.set_cons_succ])); (with_reducible apply qw_do; (kernel_rfl); (focus (intro W hC; (have q8 := (Blk.via hC (by simp) B8).cell; have q7 := (Blk.via hC (by simp) C8).cell); go_simp; (first | (first | (go_at_call 32; refine (HPo.out _ hC).mono ?_; rintro e w2 ⟨rfl, hf⟩; exact ⟨rfl, hC.trans hf⟩) | (go_at_call 32; refine (HPl.out _ hC).mono ?_; rintro e w2 ⟨rfl, hf⟩; exact ⟨rfl, hC.trans hf⟩) | (go_at_call 31; refine (HBo.out _).mono ?_; rintro e w2 ⟨rfl, rfl⟩; exact ⟨rfl, hC⟩)) | done | rfl | exact ⟨rfl, rfl⟩))); (try simp only [Act.put, List.getElem_toArray, List.getElem_cons_succ, List.getElem_cons_zero, List.setIfInBounds_toArray, List.set_cons_zero, List.set_cons_succ])); (with_reducible apply qw_do; (kernel_rfl); (focus (intro W hC; (have q8 := (Blk.via hC (by simp) B8).cell; have q7 := (Blk.via hC (by simp) C8).cell); go_simp; (first | (first | (go_at_call 32; refine (HPo.out _ hC).mono ?_; rintro e w2 ⟨rfl, hf⟩; exact ⟨rfl, hC.trans hf⟩) | (go_at_call 32; refine (HPl.out _ hC).mono ?_; rintro e w2 ⟨rfl, hf⟩; exact ⟨rfl, hC.trans hf⟩) | (go_at_call 31; refine (HBo.out _).mono ?_; rintro e w2 ⟨rfl, rfl⟩; exact ⟨rfl, hC⟩)) | done | rfl | exact ⟨rfl, rfl⟩))); (try simp only [Act.put, List.getElem_toArray, List.getElem_cons_succ, List.getElem_cons_zero, List.setIfInBounds_toArray, List.set_cons_zero, List.set_cons_succ])); (with_reducible apply qw_do; (kernel_rfl); (focus (intro W hC; (have q8 := (Blk.via hC (by simp) B8).cell; have q7 := (Blk.via hC (by simp) C8).cell); go_simp; (first | (first | (go_at_call 32; refine (HPo.out _ hC).mono ?_; rintro e w2 ⟨rfl, hf⟩; exact ⟨rfl, hC.trans hf⟩) | (go_at_call 32; refine (HPl.out _ hC).mono ?_; rintro e w2 ⟨rfl, hf⟩; exact ⟨rfl, hC.trans hf⟩) | (go_at_call 31; refine (HBo.out _).mono ?_; rintro e w2 ⟨rfl, rfl⟩; exact ⟨rfl, hC⟩)) | done | rfl | exact ⟨rfl, rfl⟩))); (try simp only [Act.put, List.getElem_toArray, List.getElem_cons_succ, List.getElem_cons_zero, List.setIfInBounds_toArray, List.set_cons_zero, List.set_cons_succ])); (with_reducible apply qw_do; (kernel_rfl); (focus (intro W hC; (have q8 := (Blk.via hC (by simp) B8).cell; have q7 := (Blk.via hC (by simp) C8).cell); go_simp; (first | (first | (go_at_call 32; refine (HPo.out _ hC).mono ?_; rintro e w2 ⟨rfl, hf⟩; exact ⟨rfl, hC.trans hf⟩) | (go_at_call 32; refine (HPl.out _ hC).mono ?_; rintro e w2 ⟨rfl, hf⟩; exact ⟨rfl, hC.trans hf⟩) | (go_at_call 31; refine (HBo.out _).mono ?_; rintro e w2 ⟨rfl, rfl⟩; exact ⟨rfl, hC⟩)) | done | rfl | exact ⟨rfl, rfl⟩))); (try simp only [Act.put, List.getElem_toArray, List.getElem_cons_succ, List.getElem_cons_zero, List.setIfInBounds_toArray, List.set_cons_zero, List.set_cons_succ])); (with_reducible apply qw_do; (kernel_rfl); (focus (intro W hC; (have q8 := (Blk.via hC (by simp) B8).cell; have q7 := (Blk.via hC (by simp) C8).cell); go_simp; (first | (first | (go_at_call 32; refine (HPo.out _ hC).mono ?_; rintro e w2 ⟨rfl, hf⟩; exact ⟨rfl, hC.trans hf⟩) | (go_at_call 32; refine (HPl.out _ hC).mono ?_; rintro e w2 ⟨rfl, hf⟩; exact ⟨rfl, hC.trans hf⟩) | (go_at_call 31; refine (HBo.out _).mono ?_; rintro e w2 ⟨rfl, rfl⟩; exact ⟨rfl, hC⟩)) | done | rfl | exact ⟨rfl, rfl⟩))); (try simp only [Act.put, List.getElem_toArray, List.getElem_cons_succ, List.getElem_cons_zero, List.setIfInBounds_toArray, List.set_cons_zero, List.set_cons_succ])); (with_reducible apply qw_do; (kernel_rfl); (focus (intro W hC; (have q8 := (Blk.via hC (by simp) B8).cell; have q7 := (Blk.via hC (by simp) C8).cell); go_simp; (first | (first | (go_at_call 32; refine (HPo.out _ hC).mono ?_; rintro e w2 ⟨rfl, hf⟩; exact ⟨rfl, hC.trans hf⟩) | (go_at_call 32; refine (HPl.out _ hC).mono ?_; rintro e w2 ⟨rfl, hf⟩; exact ⟨rfl, hC.trans hf⟩) | (go_at_call 31; refine (HBo.out _).mono ?_; rintro e w2 ⟨rfl, rfl⟩; exact ⟨rfl, hC⟩)) | done | rfl | exact ⟨rfl, rfl⟩))); (try simp only [Act.put, List.getElem_toArray, List.getElem_cons_succ, List.getElem_cons_zero, List.setIfInBounds_toArray, List.set_cons_zero, List.set_cons_succ])); (with_reducible apply qw_do; (kernel_rfl); (focus (intro W hC; (have q8 := (Blk.via hC (by simp) B8).cell; have q7 := (Blk.via hC (by simp) C8).cell); go_simp; (first | (first | (go_at_call 32; refine (HPo.out _ hC).mono ?_; rintro e w2 ⟨rfl, hf⟩; exact ⟨rfl, hC.trans hf⟩) | (go_at_call 32; refine (HPl.out _ hC).mono ?_; rintro e w2 ⟨rfl, hf⟩; exact ⟨rfl, hC.trans hf⟩) | (go_at_call 31; refine (HBo.out _).mono ?_; rintro e w2 ⟨rfl, rfl⟩; exact ⟨rfl, hC⟩)) | done | rfl | exact ⟨rfl, rfl⟩))); (try simp only [Act.put, List.getElem_toArray, List.getElem_cons_succ, List.getElem_cons_zero, List.setIfInBounds_toArray, List.set_cons_zero, List.set_cons_succ])); (with_reducible apply qw_do; (kernel_rfl); (focus (intro W hC; (have q8 := (Blk.via hC (by simp) B8).cell; have q7 := (Blk.via hC (by simp) C8).cell); go_simp; (first | (first | (go_at_call 32; refine (HPo.out _ hC).mono ?_; rintro e w2 ⟨rfl, hf⟩; exact ⟨rfl, hC.trans hf⟩) | (go_at_call 32; refine (HPl.out _ hC).mono ?_; rintro e w2 ⟨rfl, hf⟩; exact ⟨rfl, hC.trans hf⟩) | (go_at_call 31; refine (HBo.out _).mono ?_; rintro e w2 ⟨rfl, rfl⟩; exact ⟨rfl, hC⟩)) | done | rfl | exact ⟨rfl, rfl⟩))); (try simp only [Act.put, List.getElem_toArray, List.getElem_cons_succ, List.getElem_cons_zero, List.setIfInBounds_toArray, List.set_cons_zero, List.set_cons_succ])); (with_reducible apply qw_do; (kernel_rfl); (focus (intro W hC; (have q8 := (Blk.via hC (by simp) B8).cell; have q7 := (Blk.via hC (by simp) C8).cell); go_simp; (first | (first | (go_at_call 32; refine (HPo.out _ hC).mono ?_; rintro e w2 ⟨rfl, hf⟩; exact ⟨rfl, hC.trans hf⟩) | (go_at_call 32; refine (HPl.out _ hC).mono ?_; rintro e w2 ⟨rfl, hf⟩; exact ⟨rfl, hC.trans hf⟩) | (go_at_call 31; refine (HBo.out _).mono ?_; rintro e w2 ⟨rfl, rfl⟩; exact ⟨rfl, hC⟩)) | done | rfl | exact ⟨rfl, rfl⟩))); (try simp only [Act.put, List.getElem_toArray, List.getElem_cons_succ, List.getElem_cons_zero, List.setIfInBounds_toArray, List.set_cons_zero, List.set_cons_succ])); (with_reducible apply qw_do; (kernel_rfl); (focus (intro W hC; (have q8 := (Blk.via hC (by simp) B8).cell; have q7 := (Blk.via hC (by simp) C8).cell); go_simp; (first | (first | (go_at_call 32; refine (HPo.out _ hC).mono ?_; rintro e w2 ⟨rfl, hf⟩; exact ⟨rfl, hC.trans hf⟩) | (go_at_call 32; refine (HPl.out _ hC).mono ?_; rintro e w2 ⟨rfl, hf⟩; exact ⟨rfl, hC.trans hf⟩) | (go_at_call 31; refine (HBo.out _).mono ?_; rintro e w2 ⟨rfl, rfl⟩; exact ⟨rfl, hC⟩)) | done | rfl | exact ⟨rfl, rfl⟩))); (try simp only [Act.put, List.getElem_toArray, List.getElem_cons_succ, List.getElem_cons_zero, List.setIfInBounds_toArray, List.set_cons_zero, List.set_cons_succ])); (with_reducible apply qw_do; (kernel_rfl); (focus (intro W hC; (have q8 := (Blk.via hC (by simp) B8).cell; have q7 := (Blk.via hC (by simp) C8).cell); go_simp; (first | (first | (go_at_call 32; refine (HPo.out _ hC).mono ?_; rintro e w2 ⟨rfl, hf⟩; exact ⟨rfl, hC.trans hf⟩) | (go_at_call 32; refine (HPl.out _ hC).mono ?_; rintro e w2 ⟨rfl, hf⟩; exact ⟨rfl, hC.trans hf⟩) | (go_at_call 31; refine (HBo.out _).mono ?_; rintro e w2 ⟨rfl, rfl⟩; exact ⟨rfl, hC⟩)) | done | rfl | exact ⟨rfl, rfl⟩))); (try simp only [Act.put, List.getElem_toArray, List.getElem_cons_succ, List.getElem_cons_zero, List.setIfInBounds_toArray, List.set_cons_zero, List.set_cons_succ])); (with_reducible apply qw_do; (kernel_rfl); (focus (intro W hC; (have q8 := (Blk.via hC (by simp) B8).cell; have q7 := (Blk.via hC (by simp) C8).cell); go_simp; (first | (first | (go_at_call 32; refine (HPo.out _ hC).mono ?_; rintro e w2 ⟨rfl, hf⟩; exact ⟨rfl, hC.trans hf⟩) | (go_at_call 32; refine (HPl.out _ hC).mono ?_; rintro e w2 ⟨rfl, hf⟩; exact ⟨rfl, hC.trans hf⟩) | (go_at_call 31; refine (HBo.out _).mono ?_; rintro e w2 ⟨rfl, rfl⟩; exact ⟨rfl, hC⟩)) | done | rfl | exact ⟨rfl, rfl⟩))); (try simp only [Act.put, List.getElem_toArray, List.getElem_cons_succ, List.getElem_cons_zero, List.setIfInBounds_toArray, List.set_cons_zero, List.set_cons_succ])); (with_reducible apply qw_do; (kernel_rfl); (focus (intro W hC; (have q8 := (Blk.via hC (by simp) B8).cell; have q7 := (Blk.via hC (by simp) C8).cell); go_simp; (first | (first | (go_at_call 32; refine (HPo.out _ hC).mono ?_; rintro e w2 ⟨rfl, hf⟩; exact ⟨rfl, hC.trans hf⟩) | (go_at_call 32; refine (HPl.out _ hC).mono ?_; rintro e w2 ⟨rfl, hf⟩; exact ⟨rfl, hC.trans hf⟩) | (go_at_call 31; refine (HBo.out _).mono ?_; rintro e w2 ⟨rfl, rfl⟩; exact ⟨rfl, hC⟩)) | done | rfl | exact ⟨rfl, rfl⟩))); (try simp only [Act.put, List.getElem_toArray, List.getElem_cons_succ, List.getElem_cons_zero, List.setIfInBounds_toArray, List.set_cons_zero, List.set_cons_succ])); (with_reducible apply qw_do; (kernel_rfl); (focus (intro W hC; (have q8 := (Blk.via hC (by simp) B8).cell; have q7 := (Blk.via hC (by simp) C8).cell); go_simp; (first | (first | (go_at_call 32; refine (HPo.out _ hC).mono ?_; rintro e w2 ⟨rfl, hf⟩; exact ⟨rfl, hC.trans hf⟩) | (go_at_call 32; refine (HPl.out _ hC).mono ?_; rintro e w2 ⟨rfl, hf⟩; exact ⟨rfl, hC.trans hf⟩) | (go_at_call 31; refine (HBo.out _).mono ?_; rintro e w2 ⟨rfl, rfl⟩; exact ⟨rfl, hC⟩)) | done | rfl | exact ⟨rfl, rfl⟩))); (try simp only [Act.put, List.getElem_toArray, List.getElem_cons_succ, List.getElem_cons_zero, List.setIfInBounds_toArray, List.set_cons_zero, List.set_cons_succ])); (with_reducible apply qw_do; (kernel_rfl); (focus (intro W hC; (have q8 := (Blk.via hC (by simp) B8).cell; have q7 := (Blk.via hC (by simp) C8).cell); go_simp; (first | (first | (go_at_call 32; refine (HPo.out _ hC).mono ?_; rintro e w2 ⟨rfl, hf⟩; exact ⟨rfl, hC.trans hf⟩) | (go_at_call 32; refine (HPl.out _ hC).mono ?_; rintro e w2 ⟨rfl, hf⟩; exact ⟨rfl, hC.trans hf⟩) | (go_at_call 31; refine (HBo.out _).mono ?_; rintro e w2 ⟨rfl, rfl⟩; exact ⟨rfl, hC⟩)) | done | rfl | exact ⟨rfl, rfl⟩))); (try simp only [Act.put, List.getElem_toArray, List.getElem_cons_succ, List.getElem_cons_zero, List.setIfInBounds_toArray, List.set_cons_zero, List.set_cons_succ])); (with_reducible apply qw_do; (kernel_rfl); (focus (intro W hC; (have q8 := (Blk.via hC (by simp) B8).cell; have q7 := (Blk.via hC (by simp) C8).cell); go_simp; (first | (first | (go_at_call 32; refine (HPo.out _ hC).mono ?_; rintro e w2 ⟨rfl, hf⟩; exact ⟨rfl, hC.trans hf⟩) | (go_at_call 32; refine (HPl.out _ hC).mono ?_; rintro e w2 ⟨rfl, hf⟩; exact ⟨rfl, hC.trans hf⟩) | (go_at_call 31; refine (HBo.out _).mono ?_; rintro e w2 ⟨rfl, rfl⟩; exact ⟨rfl, hC⟩)) | done | rfl | exact ⟨rfl, rfl⟩))); (try simp only [Act.put, List.getElem_toArray, List.getElem_cons_succ, List.getElem_cons_zero, List.setIfInBounds_toArray, List.set_cons_zero, List.set_cons_succ])); (with_reducible apply qw_do; (kernel_rfl); (focus (intro W hC; (have q8 := (Blk.via hC (by simp) B8).cell; have q7 := (Blk.via hC (by simp) C8).cell); go_simp; (first | (first | (go_at_call 32; refine (HPo.out _ hC).mono ?_; rintro e w2 ⟨rfl, hf⟩; exact ⟨rfl, hC.trans hf⟩) | (go_at_call 32; refine (HPl.out _ hC).mono ?_; rintro e w2 ⟨rfl, hf⟩; exact ⟨rfl, hC.trans hf⟩) | (go_at_call 31; refine (HBo.out _).mono ?_; rintro e w2 ⟨rfl, rfl⟩; exact ⟨rfl, hC⟩)) | done | rfl | exact ⟨rfl, rfl⟩))); (try simp only [Act.put, List.getElem_toArray, List.getElem_cons_succ, List.getElem_cons_zero, List.setIfInBounds_toArray, List.set_cons_zero, List.set_cons_succ])); (with_reducible apply qw_do; (kernel_rfl); (focus (intro W hC; (have q8 := (Blk.via hC (by simp) B8).cell; have q7 := (Blk.via hC (by simp) C8).cell); go_simp; (first | (first | (go_at_call 32; refine (HPo.out _ hC).mono ?_; rintro e w2 ⟨rfl, hf⟩; exact ⟨rfl, hC.trans hf⟩) | (go_at_call 32; refine (HPl.out _ hC).mono ?_; rintro e w2 ⟨rfl, hf⟩; exact ⟨rfl, hC.trans hf⟩) | (go_at_call 31; refine (HBo.out _).mono ?_; rintro e w2 ⟨rfl, rfl⟩; exact ⟨rfl, hC⟩)) | done | rfl | exact ⟨rfl, rfl⟩))); (try simp only [Act.put, List.getElem_toArray, List.getElem_cons_succ, List.getElem_cons_zero, List.setIfInBounds_toArray, List.set_cons_zero, List.set_cons_succ])); (with_reducible apply qw_do; (kernel_rfl); (focus (intro W hC; (have q8 := (Blk.via hC (by simp) B8).cell; have q7 := (Blk.via hC (by simp) C8).cell); go_simp; (first | (first | (go_at_call 32; refine (HPo.out _ hC).mono ?_; rintro e w2 ⟨rfl, hf⟩; exact ⟨rfl, hC.trans hf⟩) | (go_at_call 32; refine (HPl.out _ hC).mono ?_; rintro e w2 ⟨rfl, hf⟩; exact ⟨rfl, hC.trans hf⟩) | (go_at_call 31; refine (HBo.out _).mono ?_; rintro e w2 ⟨rfl, rfl⟩; exact ⟨rfl, hC⟩)) | done | rfl | exact ⟨rfl, rfl⟩))); (try simp only [Act.put, List.getElem_toArray, List.getElem_cons_succ, List.getElem_cons_zero, List.setIfInBounds_toArray, List.set_cons_zero, List.set_cons_succ])); (with_reducible apply qw_do; (kernel_rfl); (focus (intro W hC; (have q8 := (Blk.via hC (by simp) B8).cell; have q7 := (Blk.via hC (by simp) C8).cell); go_simp; (first | (first | (go_at_call 32; refine (HPo.out _ hC).mono ?_; rintro e w2 ⟨rfl, hf⟩; exact ⟨rfl, hC.trans hf⟩) | (go_at_call 32; refine (HPl.out _ hC).mono ?_; rintro e w2 ⟨rfl, hf⟩; exact ⟨rfl, hC.trans hf⟩) | (go_at_call 31; refine (HBo.out _).mono ?_; rintro e w2 ⟨rfl, rfl⟩; exact ⟨rfl, hC⟩)) | done | rfl | exact ⟨rfl, rfl⟩))); (try simp only [Act.put, List.getElem_toArray, List.getElem_cons_succ, List.getElem_cons_zero, List.setIfInBounds_toArray, List.set_cons_zero, List.set_cons_succ])); with_reducible refine qw_nil ?_
                    intro w10 F10
                    have O10 := O8.fr F10
                    have B10 := Blk.via F10 (by simp) B8
                    have C10 := Blk.via F10 (by simp) C8
                    have q8 := B10.cell
                    have hneq := neq_ord
                    clear HPo O8 B8 C8 F10
                    go_wp2_with fail
                    refine (ownBook_remove O10 o HOL.out).mono ?_
                    rintro e w11 ⟨rfl, O11, F11⟩
                    have B11 := Blk.via F11 (fun h => hxD _ h rfl) B10
                    have C11 := Blk.via F11 (fun h => hgD _ h rfl) C10
                    have q9 := B11.cell
                    have hl9 := B11.lt
                    obtain ⟨hY7, hl7⟩ := rmv_head O10.2.1.goodL HY6.out
                    have HY7 := Lib.hid hY7
                    have HL7 := Lib.hid hl7
                    clear q8 O10 B10 C10 F11 hY7 hl7
                    go_wp2_with (refine wpList_storeO rfl (.tmp 8) (.tmp 110) rfl g _ o rfl rfl (C11.alloc _) rfl ?_
                                 intro w12 C12 F12)
                    go_roundw
                    case rel => exact ⟨m + 1, rmv o.id L2, o, Y3, by omega, by have := HL7.out; congr 1; omega, by simp, ⟨fr_own hgw (O11.1.alloc _) F12, (O11.2.1.fr ((Fr.refl [] w11).alloc _) (by simp)).fr F12 (fun y hy h => hgD y hy (List.mem_singleton.1 h)), O11.2.2⟩, C12, HI6.out.rmv _, fun y hy => HSD6.out y (List.mem_filter.1 hy).1, HY7.out, by simp at hmY; omega, fun _ => (List.pairwise_cons.1 (HI6.out.side HY6.out)).1⟩
                    case measure => simp [intOf] <;> omega
              · obtain rfl : m = 60 := by omega
                obtain rfl : Y2 = [] := List.eq_nil_of_length_eq_zero (by omega)
                have HFo := Lib.hid (HF.out rfl)
                clear HF
                go_wp2_with fail
                go_roundw
                case rel => exact ⟨side + 1, L2, by omega, rfl, by simp, O6, HI6.out, HFo.out⟩
                case measure => simp [intOf]; omega
          · obtain rfl : side = 2 := by omega
            have hn : L1 = [] := by
              rcases List.eq_nil_or_concat L1 with h | ⟨r, a, h⟩
              · exact h
              · have h1 := HSD.out a (by rw [h]; simp)
                have h2 := (O4.2.1.goodL.good a (by rw [h]; simp)).sd
                omega
            subst hn
            go_wp2_with fail
            refine (bookLen wr b D 60 60 [] O4.2.1).mono ?_
            rintro e w5 ⟨rfl, F5⟩
            have O5 := O4.fr F5
            clear O4
            go_wp2_with fail
            refine (bookAlive_any _).mono ?_
            rintro e w6 ⟨rfl, F6⟩
            go_wp2_with fail
            go_ret
            exact ⟨rfl, (O5.1.trans F6).toBelow⟩
end Go.Proofs.Ytkimldeagndgjaa

/- The row of the law BookGives: for every input the law returns true, and each argument reads behind the call as it read before. Out of the walk bookGives_walk. -/
namespace Go.Proofs.Ytkimldeagndgjaa.bookGives
set_option linter.unusedVariables false
set_option linter.unusedSimpArgs false
open Go.ChangeShapes Go.WideShapes Go.ChangeAt Go.RowKit
set_option linter.unusedVariables false
theorem own : ownKnob Try.prog.godebug = none := by kernel_rfl
theorem laidOut : laidOutB Try.prog = true := by kernel_rfl
set_option maxRecDepth 100000 in
theorem lifted (os : Os) (started : os.Started) (H : Type) (enc : TypeId × Value → H) :
    ReturnsInHanded {} Try.checked os 6 .any (Rows.bookGivesSpec.pre6 enc Try.prog Try.f6 Rows.bookGivesRow.domain false) (Rows.bookGivesSpec.post enc Try.prog Try.f6 false true false false) := by
  refine returnsInHanded_of_change_sized (C := Try.checked) own started (by kernel_rfl) Try.func6
    (ChangeSpec.witness6 (enc := enc) (C := Try.checked) false ⟨#[], #[.slice none 0 0], []⟩ 8 (by kernel_rfl) (by kernel_rfl) (by kernel_rfl) (by kernel_rfl)) ?_
  intro W base args ds gs before hval0 hW hcnd hsz0 _
  have hval : ∀ (j : Nat) t v, Try.f6.params[j]? = some t → args[j]? = some v → Value.okWide Try.prog W .any base t v := hval0
  have hW' := hW
  obtain ⟨p, q, hA0, hV, rfl, hfz, hnd⟩ := hW
  have hA : DataW.TrodAll enc Try.prog W 0 (fun _ => true) true Try.f6.params.toList args.toList ds p := hA0
  rw [Try.params6] at hA hval
  obtain ⟨v0, vs0, d0, ds0, p0, q0, hargs, rfl, rfl, h0, r0⟩ := trodAll_cons hA
  obtain ⟨rfl, rfl, rfl⟩ := trodAll_nil r0
  obtain rfl : args = #[v0] := by cases args; simp_all
  obtain ⟨rfl, rfl⟩ := trodVars_none hV
  have k0 := h0
  have lt0 : ∀ x ∈ p0, x.block < W.heap.size := by obtain ⟨m, hm⟩ := k0; exact DataW.trod_lt m _ _ _ hm
  obtain ⟨A0, n0, c0, rfl⟩ := okWide_slice Try.underlying22 (hval 0 22 v0 rfl rfl)
  obtain ⟨F0, w0, m0⟩ := open_rows (m := 7) Try.underlying22 (by kernel_rfl) (by decide) (by kernel_rfl) h0
  clear hA0 hval0 hsz0
  refine (bookGives_walk W A0 n0 c0 F0 w0 m0).mono fun e W' ⟨he, bel⟩ => ?_
  subst he
  exact ⟨_, rfl, _, _, _, [], _, [], hW', trodAll_mk1 (shut_bool Try.underlying4 _), (trodAll_cons_mk (Below.trod laidOut (by kernel_rfl) (of_decide_eq_true (by kernel_rfl)) k0 bel lt0) trodAll_mk0), rfl, bel.frame _, fun h => by cases h⟩
theorem over : Rows.bookGivesRow.holds Try.pinned (OpenSpec.ofChange Rows.bookGivesSpec) :=
  OpenClaim.holds_of_wide 6 Try.f6 rfl rfl rfl rfl rfl rfl rfl ⟨rfl, rfl, rfl, rfl, rfl⟩ rfl rfl rfl rfl rfl (by kernel_rfl) Try.func6 (by kernel_rfl)
    (of_decide_eq_true (by kernel_rfl)) (by unfold Func.isWrapper; first | (rw [if_pos (by decide +kernel)]; kernel_rfl) | (rw [if_neg (by decide +kernel)]; exact ⟨rfl, rfl⟩))
    (fun os started H enc _ => lifted os started H enc)
theorem proved : Rows.BookGivesSaid := over
#print axioms proved
end Go.Proofs.Ytkimldeagndgjaa.bookGives
namespace Go.Proofs.Ytkimldeagndgjaa
theorem bookGives_holds : Rows.BookGivesSaid := bookGives.proved
end Go.Proofs.Ytkimldeagndgjaa
