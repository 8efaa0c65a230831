/- One side of a book: what is there, in its order; the best; less of an order. -/
import Derived.Test.YtkimldeagndgjaaSideC
namespace Go.Proofs.Ytkimldeagndgjaa
set_option linter.unusedVariables false
set_option linter.unusedSimpArgs false
open Go.RowKit

theorem SideI.skipRem {w : World} {s : Int} {lp : Nat} {v : Value} {bq bn be N K : Nat} {T : List Nat} {ord : Nat → Ord} (h : SideI w s lp v bq bn be N K T ord) {i : Nat} (hs : (ord i).sd ≠ s) :
    SideI w s lp v bq bn be N K (less T i) ord := by
  obtain ⟨u, n, f, Lq, hl, hq, hlev, hhas, hrest⟩ := h.ex
  refine ⟨u, n, f, Lq, hl, hq, ?_, ?_, hrest⟩
  · intro j hj
    obtain ⟨k, h1, h2, h3, h4, h5⟩ := hlev j hj
    refine ⟨k, h1, h2, ?_, h4, h5⟩
    rw [onL_less, less_not (fun hm => hs (onL_mem.1 hm).2.1)]; exact h3
  · intro a ha hsa
    exact hhas a (less_mem.1 ha).1 hsa
theorem onL_updO {s p : Int} {T : List Nat} {ord : Nat → Ord} {i : Nat} {o : Ord} (h1 : o.sd = (ord i).sd) (h2 : o.pr = (ord i).pr) : onL s p T (updO ord i o) = onL s p T ord := by
  unfold onL
  refine List.filter_congr fun a _ => ?_
  by_cases e : a = i
  · subst e; rw [updO_same, h1, h2]
  · rw [updO_ne e]
theorem SideI.skipUpd {w : World} {s : Int} {lp : Nat} {v : Value} {bq bn be N K : Nat} {T : List Nat} {ord : Nat → Ord} (h : SideI w s lp v bq bn be N K T ord) {i : Nat} {o : Ord} (hs : (ord i).sd ≠ s) (h1 : o.sd = (ord i).sd) (h2 : o.pr = (ord i).pr) :
    SideI w s lp v bq bn be N K T (updO ord i o) := by
  obtain ⟨u, n, f, Lq, hl, hq, hlev, hhas, hrest⟩ := h.ex
  refine ⟨u, n, f, Lq, hl, hq, ?_, ?_, hrest⟩
  · intro j hj
    obtain ⟨k, a1, a2, a3, a4, a5⟩ := hlev j hj
    refine ⟨k, a1, a2, by rw [onL_updO h1 h2]; exact a3, a4, ?_⟩
    rw [a5]
    refine sumS_congr fun a ha => ?_
    have e : a ≠ i := by
      rintro rfl
      rw [a3] at ha
      exact hs (onL_mem.1 ha).2.1
    rw [updO_ne e]
  · intro a ha hsa
    by_cases e : a = i
    · subst e; rw [updO_same, h1] at hsa; exact absurd hsa hs
    · rw [updO_ne e] at hsa ⊢; exact hhas a ha hsa
theorem sumS_upd {ord : Nat → Ord} {l : List Nat} {i : Nat} {o : Ord} (hn : l.Nodup) (hi : i ∈ l) : sumS (updO ord i o) l = sumS ord l - (ord i).qt + o.qt := by
  obtain ⟨A, B, rfl⟩ := List.append_of_mem hi
  have h1 := List.nodup_append.1 hn
  have h2 := List.nodup_cons.1 h1.2.1
  have eA : sumS (updO ord i o) A = sumS ord A := sumS_congr fun a ha => by rw [updO_ne (show a ≠ i from fun e => h1.2.2 a ha i (by simp) e)]
  have eB : sumS (updO ord i o) B = sumS ord B := sumS_congr fun a ha => by rw [updO_ne (show a ≠ i from fun e => h2.1 (e ▸ ha))]
  simp only [sumS, List.map_append, List.map_cons, List.sum_append, List.sum_cons, updO_same] at eA eB ⊢
  rw [eA, eB]; omega

theorem side_less (w : World) (s : Int) (lp : Nat) (v : Value) (bq bn be N K : Nat) (T : List Nat) (ord : Nat → Ord) (h : SideI w s lp v bq bn be N K T ord) (ht : Times N T ord) (i : Nat) (hi : i ∈ T) (hs : (ord i).sd = s) (by' : Int) (hb : 1 ≤ by' ∧ by' < (ord i).qt) :
    Calls Try.prog 105 #[.pointer (some ⟨lp, 0, none⟩), .int .i64 (ord i).pr, .int .i64 by', .bool false] w fun e w' => ∃ (k : Nat), e = .returned (.tuple #[.int .i64 k, .int .i64 0]) ∧ Fr v.ownBlock.toList w w' ∧
      SideI w' s lp v bq bn be N K T (updO ord i { ord i with qt := (ord i).qt - by' }) := by
  obtain ⟨u, n, f, Lq, hl, hq, hlev, hhas, hrest⟩ := h.ex
  obtain ⟨j, hj, hjp⟩ := hhas i hi hs
  obtain ⟨k, e1, e2, e3, e4, e5⟩ := hlev j hj
  have hik : i ∈ Lq k := by rw [e3]; exact onL_mem.2 ⟨hi, hs, hjp.symm⟩
  have hnd : (Lq k).Nodup := by rw [e3]; exact ht.nd.filter _
  obtain ⟨A, B, hAB⟩ := List.append_of_mem hik
  have hsl := sumS_less (ord := ord) hnd hAB
  have hsum0 : 0 ≤ sumS ord (less (Lq k) i) := by
    have : ∀ l : List Nat, (∀ a ∈ l, a ∈ T) → 0 ≤ sumS ord l := by
      intro l
      induction l with
      | nil => intro _; simp [sumS]
      | cons a r ih =>
        intro hh
        have h1 := (ht.good a (hh a (by simp))).qt.1
        have h2 := ih fun b hb => hh b (by simp [hb])
        simp only [sumS, List.map_cons, List.sum_cons] at h2 ⊢
        omega
    refine this _ fun a ha => ?_
    exact (onL_mem.1 (e3 ▸ (less_mem.1 ha).1)).1
  have hlen := ht.onL_len s (f j).price
  have hN := ht.N2
  have hvq : ∀ g, v.ownBlock = some g → bq ≠ g ∧ bn ≠ g ∧ be ≠ g := fun g hg => by
    obtain ⟨cur, B⟩ := hl.r.r.blk hg
    exact hq.ne B (by decide) (by decide) (by decide)
  rw [← hjp]
  refine (take_less w lp s K v u n f hl j hj by' ⟨by omega, by rw [e5]; omega⟩ false (fun h => by cases h) (by rw [e4, e3]; omega)).mono ?_
  rintro e w' ⟨rfl, F, hl'⟩
  have hq' := hq.fr F (fun hm => (hvq _ (by simpa using hm)).1 rfl) (fun hm => (hvq _ (by simpa using hm)).2.1 rfl) (fun hm => (hvq _ (by simpa using hm)).2.2 rfl)
  refine ⟨k, by rw [e1], F, u, n, _, Lq, hl', hq', ?_, ?_, ?_⟩
  · intro j' hj'
    by_cases c : j' = j
    · subst c
      refine ⟨k, by rw [updF_self]; exact e1, e2, ?_, ?_, ?_⟩
      · rw [updF_self]; exact e3.trans (onL_updO (by rfl) (by rfl)).symm
      · rw [updF_self]; simpa using e4
      · rw [updF_self, sumS_upd hnd hik, ← e5]; simp; omega
    · obtain ⟨k', a1, a2, a3, a4, a5⟩ := hlev j' hj'
      refine ⟨k', by rw [updF_ne c]; exact a1, a2, ?_, ?_, ?_⟩
      · rw [updF_ne c]; exact a3.trans (onL_updO (by rfl) (by rfl)).symm
      · rw [updF_ne c]; exact a4
      · rw [updF_ne c, a5]
        refine sumS_congr fun a ha => ?_
        have e : a ≠ i := by
          rintro rfl
          rw [a3] at ha
          have hp : (f j').price = (f j).price := (onL_mem.1 ha).2.2.symm.trans hjp.symm
          rcases Nat.lt_or_gt_of_ne c with c | c
          · exact keyI_ne (hl.r.sorted j' j c hj) hp
          · exact keyI_ne (hl.r.sorted j j' c hj') hp.symm
        rw [updO_ne e]
  · intro a ha hsa
    have e : (updO ord i { ord i with qt := (ord i).qt - by' } a).sd = (ord a).sd ∧ (updO ord i { ord i with qt := (ord i).qt - by' } a).pr = (ord a).pr := by
      by_cases e : a = i
      · subst e; rw [updO_same]; exact ⟨rfl, rfl⟩
      · rw [updO_ne e]; exact ⟨rfl, rfl⟩
    rw [e.1] at hsa
    rw [e.2]
    obtain ⟨j0, hj0, hp0⟩ := hhas a ha hsa
    refine ⟨j0, hj0, ?_⟩
    by_cases c : j0 = j
    · subst c; rw [updF_self]; exact hp0
    · rw [updF_ne c]; exact hp0
  · intro k' hk' hno
    refine hrest k' hk' fun j0 hj0 hc => ?_
    refine hno j0 hj0 ?_
    by_cases c : j0 = j
    · subst c; rw [updF_self]; exact hc
    · rw [updF_ne c]; exact hc

/-- The slots of a side in its order: by price, then by time. -/
def SlotsOf (s : Int) (T : List Nat) (ord : Nat → Ord) (X : List Nat) : Prop := X.Pairwise (fun a b => keyI s (ord a).pr ≤ keyI s (ord b).pr) ∧ ∀ p, X.filter (fun a => decide ((ord a).pr = p)) = onL s p T ord
theorem flat_one {F : Nat → Int} {p : Int} {l : List Nat} : ∀ {R : List Nat}, R.Pairwise (fun a b => F a ≠ F b) → ((∃ j ∈ R, F j = p) → R.flatMap (fun j => if F j = p then l else []) = l) ∧ ((¬ ∃ j ∈ R, F j = p) → R.flatMap (fun j => if F j = p then l else []) = [])
  | [], _ => ⟨fun ⟨_, h, _⟩ => (by cases h), fun _ => rfl⟩
  | a :: r, h => by
    obtain ⟨h1, h2⟩ := List.pairwise_cons.1 h
    obtain ⟨i1, i2⟩ := flat_one (F := F) (p := p) (l := l) h2
    by_cases c : F a = p
    · have hno : ¬ ∃ j ∈ r, F j = p := fun ⟨j, hj, e⟩ => h1 j hj (c.trans e.symm)
      refine ⟨fun _ => ?_, fun hh => absurd ⟨a, by simp, c⟩ hh⟩
      rw [List.flatMap_cons, if_pos c, i2 hno, List.append_nil]
    · rw [List.flatMap_cons, if_neg c, List.nil_append]
      refine ⟨fun ⟨j, hj, e⟩ => i1 ?_, fun hh => i2 fun ⟨j, hj, e⟩ => hh ⟨j, by simp [hj], e⟩⟩
      rcases List.mem_cons.1 hj with rfl | hj
      · exact absurd e c
      · exact ⟨j, hj, e⟩
section
variable {w : World} {s : Int} {lp : Nat} {v : Value} {bq bn be N K : Nat} {T : List Nat} {ord : Nat → Ord} {u : Nat → Nat} {n : Nat} {f : Nat → Lvl} {Lq : Nat → List Nat}
theorem slots_lev (hl : LadI w lp s K v u n f) (hhas : ∀ i ∈ T, (ord i).sd = s → ∃ j, j < n ∧ (f j).price = (ord i).pr) : SlotsOf s T ord ((List.range n).flatMap fun j => onL s (f j).price T ord) := by
  have hpr : (List.range n).Pairwise (fun a b => keyI s (f a).price < keyI s (f b).price) := by
    refine List.Pairwise.imp_of_mem ?_ (List.pairwise_lt_range (n := n))
    intro a b ha hb hab
    exact hl.r.sorted a b hab (by simpa using hb)
  constructor
  · rw [List.pairwise_flatMap]
    refine ⟨fun j _ => ?_, hpr.imp fun {a b} hab x hx y hy => ?_⟩
    · refine List.Pairwise.imp_of_mem ?_ (List.pairwise_of_forall (R := fun _ _ => True) (fun _ _ => trivial))
      intro a b ha hb _
      rw [(onL_mem.1 ha).2.2, (onL_mem.1 hb).2.2]; exact Int.le_refl _
    · rw [(onL_mem.1 hx).2.2, (onL_mem.1 hy).2.2]; omega
  · intro p
    rw [List.filter_flatMap]
    have e : ∀ j, (onL s (f j).price T ord).filter (fun a => decide ((ord a).pr = p)) = if (f j).price = p then onL s p T ord else [] := by
      intro j
      by_cases c : (f j).price = p
      · rw [if_pos c, c]
        exact List.filter_eq_self.2 fun a ha => by simpa using (onL_mem.1 ha).2.2
      · rw [if_neg c, List.filter_eq_nil_iff]
        intro a ha
        simpa [(onL_mem.1 ha).2.2] using c
    simp only [e]
    obtain ⟨i1, i2⟩ := flat_one (F := fun j => (f j).price) (p := p) (l := onL s p T ord) (hpr.imp fun {a b} h => keyI_ne h)
    by_cases c : ∃ j ∈ List.range n, (f j).price = p
    · exact i1 c
    · rw [i2 c]
      symm
      rw [List.eq_nil_iff_forall_not_mem]
      intro a ha
      obtain ⟨m1, m2, m3⟩ := onL_mem.1 ha
      obtain ⟨j, hj, hjp⟩ := hhas a m1 m2
      exact c ⟨j, by simpa using hj, hjp.trans m3⟩
end
end Go.Proofs.Ytkimldeagndgjaa
