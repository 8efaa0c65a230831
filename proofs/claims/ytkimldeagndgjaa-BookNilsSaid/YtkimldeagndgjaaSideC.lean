/- One side of a book: an order is removed, or less of it is left, walked. -/
import Derived.Test.YtkimldeagndgjaaSideB
namespace Go.Proofs.Ytkimldeagndgjaa
set_option linter.unusedVariables false
set_option linter.unusedSimpArgs false
open Go.RowKit

def less (l : List Nat) (i : Nat) : List Nat := l.filter fun a => decide (a ≠ i)
theorem less_split {l A B : List Nat} {i : Nat} (hn : l.Nodup) (h : l = A ++ i :: B) : less l i = A ++ B := by
  subst h
  have h1 := List.nodup_append.1 hn
  have h2 := List.nodup_cons.1 h1.2.1
  unfold less
  rw [List.filter_append, List.filter_cons]
  simp only [ne_eq, not_true, decide_false, Bool.false_eq_true, if_false]
  rw [List.filter_eq_self.2, List.filter_eq_self.2]
  · intro a ha
    simpa using fun e : a = i => h2.1 (e ▸ ha)
  · intro a ha
    simpa using fun e : a = i => h1.2.2 a ha i (by simp) e
theorem less_mem {l : List Nat} {i a : Nat} : a ∈ less l i ↔ a ∈ l ∧ a ≠ i := by unfold less; rw [List.mem_filter]; simp
theorem onL_less (s p : Int) (T : List Nat) (ord : Nat → Ord) (i : Nat) : onL s p (less T i) ord = less (onL s p T ord) i := by
  unfold onL less
  rw [List.filter_filter, List.filter_filter]
  exact List.filter_congr fun a _ => Bool.and_comm _ _
theorem less_not {l : List Nat} {i : Nat} (h : i ∉ l) : less l i = l := List.filter_eq_self.2 fun a ha => by simpa using fun e : a = i => h (e ▸ ha)
theorem sumS_less {ord : Nat → Ord} {l A B : List Nat} {i : Nat} (hn : l.Nodup) (h : l = A ++ i :: B) : sumS ord (less l i) = sumS ord l - (ord i).qt := by
  rw [less_split hn h, h]
  simp [sumS]; omega

/-- A side whose queue has given up a slot that its level still counts. -/
def HalfR (w : World) (s : Int) (lp : Nat) (v : Value) (bq bn be N K i : Nat) (T : List Nat) (ord : Nat → Ord) : Prop :=
  ∃ u n f Lq j, ∃ k : Nat, j < n ∧ LadI w lp s K v u n f ∧ AbsQ w bq bn be N K (updQ Lq k (less (Lq k) i)) ∧ (f j).queue = k ∧ k < K ∧ (f j).price = (ord i).pr ∧ i ∈ Lq k ∧
    (∀ j, j < n → ∃ k : Nat, (f j).queue = k ∧ k < K ∧ Lq k = onL s (f j).price T ord ∧ (f j).orders = (Lq k).length ∧ (f j).qty = sumS ord (Lq k)) ∧
    (∀ i ∈ T, (ord i).sd = s → ∃ j, j < n ∧ (f j).price = (ord i).pr) ∧
    (∀ k, k < K → (∀ j, j < n → (f j).queue ≠ k) → Lq k = [])

theorem HalfR.fr {w W : World} {s : Int} {lp : Nat} {v : Value} {bq bn be N K i : Nat} {T : List Nat} {ord : Nat → Ord} (h : HalfR w s lp v bq bn be N K i T ord) {S : List Nat} (hf : Fr S w W)
    (h1 : lp ∉ S) (h2 : ∀ g, v.ownBlock = some g → g ∉ S) (h3 : bq ∉ S) (h4 : bn ∉ S) (h5 : be ∉ S) : HalfR W s lp v bq bn be N K i T ord := by
  obtain ⟨u, n, f, Lq, j, k, hj, hl, hq, hr⟩ := h
  exact ⟨u, n, f, Lq, j, k, hj, ⟨hl.r.fr hf h1 h2, hl.word, hl.bit, hl.low, hl.qty, hl.ord, hl.inj, hl.own⟩, hq.fr hf h3 h4 h5, hr⟩

theorem side_rem (w : World) (s : Int) (lp : Nat) (v : Value) (bq bn be N K : Nat) (T : List Nat) (ord : Nat → Ord) (h : SideI w s lp v bq bn be N K T ord) (ht : Times N T ord) (i : Nat) (hi : i ∈ T) (hs : (ord i).sd = s) :
    Calls Try.prog 137 #[.pointer (some ⟨bq, 0, none⟩), .int .i64 i] w fun e w' => (∃ k : Nat, e = .returned (.tuple #[.int .i64 k, .bool true])) ∧ Fr [bn, be] w w' ∧ HalfR w' s lp v bq bn be N K i T ord := by
  obtain ⟨u, n, f, Lq, hl, hq, hlev, hhas, hrest⟩ := h.ex
  obtain ⟨j, hj, hjp⟩ := hhas i hi hs
  obtain ⟨k, e1, e2, e3, e4, e5⟩ := hlev j hj
  have hik : i ∈ Lq k := by rw [e3]; exact onL_mem.2 ⟨hi, hs, hjp.symm⟩
  have hnd : (Lq k).Nodup := by rw [e3]; exact ht.nd.filter _
  obtain ⟨A, B, hAB⟩ := List.append_of_mem hik
  refine (remove_yes hq k i A B e2 hAB).mono ?_
  rintro e w' ⟨rfl, F, hq'⟩
  have hlpq : bq ≠ lp ∧ bn ≠ lp ∧ be ≠ lp := hq.ne hl.r.b (by decide) (by decide) (by decide)
  have hvq : ∀ g, v.ownBlock = some g → bq ≠ g ∧ bn ≠ g ∧ be ≠ g := fun g hg => by
    obtain ⟨cur, B⟩ := hl.r.r.blk hg
    exact hq.ne B (by decide) (by decide) (by decide)
  have b1 : ∀ x, x ∈ [bn, be] → x ≠ lp ∧ ∀ g, v.ownBlock = some g → x ≠ g := by
    intro x hx
    rcases (show x = bn ∨ x = be by simpa using hx) with rfl | rfl
    · exact ⟨hlpq.2.1, fun g hg => (hvq g hg).2.1⟩
    · exact ⟨hlpq.2.2, fun g hg => (hvq g hg).2.2⟩
  have hl' : LadI w' lp s K v u n f := ⟨hl.r.fr F (fun hm => (b1 _ hm).1 rfl) (fun g hg hm => (b1 _ hm).2 g hg rfl), hl.word, hl.bit, hl.low, hl.qty, hl.ord, hl.inj, hl.own⟩
  exact ⟨⟨k, rfl⟩, F, u, n, f, Lq, j, k, hj, hl', by rw [less_split hnd hAB]; exact hq', e1, e2, hjp, hik, hlev, hhas, hrest⟩

set_option maxHeartbeats 1000000 in
theorem side_take (w : World) (s : Int) (lp : Nat) (v : Value) (bq bn be N K i : Nat) (T : List Nat) (ord : Nat → Ord) (h : HalfR w s lp v bq bn be N K i T ord) (ht : Times N T ord) :
    Calls Try.prog 105 #[.pointer (some ⟨lp, 0, none⟩), .int .i64 (ord i).pr, .int .i64 (ord i).qt, .bool true] w fun e w' => ∃ (k : Nat) (v' : Value), e = .returned (.tuple #[.int .i64 k, .int .i64 0]) ∧ Fr (lp :: v.ownBlock.toList) w w' ∧
      v'.ownBlock = v.ownBlock ∧ SideI w' s lp v' bq bn be N K (less T i) ord := by
  obtain ⟨u, n, f, Lq, j, k, hj, hl, hq, e1, e2, hjp, hik, hlev, hhas, hrest⟩ := h
  obtain ⟨k0, e1', _, e3, e4, e5⟩ := hlev j hj
  obtain rfl : k0 = k := by rw [e1] at e1'; omega
  have hiT := (onL_mem.1 (e3 ▸ hik)).1
  have his := (onL_mem.1 (e3 ▸ hik)).2.1
  have hnd : (Lq k0).Nodup := by rw [e3]; exact ht.nd.filter _
  obtain ⟨A, B, hAB⟩ := List.append_of_mem hik
  have hqt := (ht.good i hiT).qt
  have hsum0 : 0 ≤ sumS ord (less (Lq k0) i) := by
    have : ∀ l : List Nat, (∀ a ∈ l, a ∈ T) → 0 ≤ sumS ord l := by
      intro l
      induction l with
      | nil => intro _; simp [sumS]
      | cons a r ih =>
        intro hh
        have h1 := (ht.good a (hh a (by simp))).qt.1
        have h2 := ih fun b hb => hh b (by simp [hb])
        simp only [sumS, List.map_cons, List.sum_cons] at h2 ⊢
        omega
    refine this _ fun a ha => ?_
    exact (onL_mem.1 (e3 ▸ (less_mem.1 ha).1)).1
  have hsl := sumS_less (ord := ord) hnd hAB
  have hlen := ht.onL_len s (f j).price
  have hN := ht.N2
  have hlpq : bq ≠ lp ∧ bn ≠ lp ∧ be ≠ lp := hq.ne hl.r.b (by decide) (by decide) (by decide)
  have hvq : ∀ g, v.ownBlock = some g → bq ≠ g ∧ bn ≠ g ∧ be ≠ g := fun g hg => by
    obtain ⟨cur, B⟩ := hl.r.r.blk hg
    exact hq.ne B (by decide) (by decide) (by decide)
  have hqS : ∀ x, x = bq ∨ x = bn ∨ x = be → x ∉ (lp :: v.ownBlock.toList) := by
    intro x hx hm
    rcases List.mem_cons.1 hm with e | e
    · rcases hx with rfl | rfl | rfl
      · exact hlpq.1 e
      · exact hlpq.2.1 e
      · exact hlpq.2.2 e
    · have hg : v.ownBlock = some x := by simpa using e
      have := hvq x hg
      rcases hx with rfl | rfl | rfl
      · exact this.1 rfl
      · exact this.2.1 rfl
      · exact this.2.2 rfl
  have hother : ∀ j', j' < n → j' ≠ j → (f j').price ≠ (f j).price := by
    intro j' hj' c
    rcases Nat.lt_or_gt_of_ne c with c | c
    · exact keyI_ne (hl.r.sorted j' j c hj)
    · exact (keyI_ne (hl.r.sorted j j' c hj')).symm
  have hstay : ∀ j', j' < n → j' ≠ j → ∃ k : Nat, k ≠ k0 ∧ (f j').queue = k ∧ k < K ∧ Lq k = onL s (f j').price (less T i) ord ∧ (f j').orders = (Lq k).length ∧ (f j').qty = sumS ord (Lq k) := by
    intro j' hj' c
    obtain ⟨k', a1, a2, a3, a4, a5⟩ := hlev j' hj'
    refine ⟨k', ?_, a1, a2, ?_, a4, a5⟩
    · intro e
      exact c (hl.inj j' j hj' hj (by rw [a1, e1, e]))
    · rw [onL_less, less_not, ← a3]
      intro hm
      exact hother j' hj' c ((onL_mem.1 hm).2.2.symm.trans hjp.symm)
  by_cases hone : (f j).orders = 1
  · rw [← hjp]
    refine (take_last w lp s K v u n f hl j hj (ord i).qt ⟨by omega, by rw [e5]; omega⟩ hone).mono ?_
    rintro e w' ⟨rfl, F, v', u', hv', hl'⟩
    have hq' := hq.fr F (hqS _ (.inl rfl)) (hqS _ (.inr (.inl rfl))) (hqS _ (.inr (.inr rfl)))
    have hnil : less (Lq k0) i = [] := by
      have h1 : (Lq k0).length = 1 := by rw [hone] at e4; omega
      rw [less_split hnd hAB]
      rw [hAB] at h1
      simp at h1
      rw [List.eq_nil_of_length_eq_zero (l := A) (by omega), List.eq_nil_of_length_eq_zero (l := B) (by omega)]; rfl
    refine ⟨k0, v', by rw [e1], F, hv', u', n - 1, delF f j, _, hl', hq', ?_, ?_, ?_⟩
    · intro j' hj'
      obtain ⟨j0, hj0, hc, hd⟩ : ∃ j0, j0 < n ∧ j0 ≠ j ∧ delF f j j' = f j0 := by
        unfold delF
        by_cases c : j' < j
        · exact ⟨j', by omega, by omega, by rw [if_pos c]⟩
        · exact ⟨j' + 1, by omega, by omega, by rw [if_neg c]⟩
      obtain ⟨k', a0, a1, a2, a3, a4, a5⟩ := hstay j0 hj0 hc
      refine ⟨k', by rw [hd]; exact a1, a2, ?_, ?_, ?_⟩
      · rw [hd, updQ_ne a0]; exact a3
      · rw [hd, updQ_ne a0]; exact a4
      · rw [hd, updQ_ne a0]; exact a5
    · intro a ha hsa
      obtain ⟨m1, m2⟩ := less_mem.1 ha
      obtain ⟨j0, hj0, hp0⟩ := hhas a m1 hsa
      have hc : j0 ≠ j := by
        rintro rfl
        have h1 : a ∈ Lq k0 := by rw [e3]; exact onL_mem.2 ⟨m1, hsa, hp0.symm⟩
        have h2 : a ∈ less (Lq k0) i := less_mem.2 ⟨h1, m2⟩
        rw [hnil] at h2; cases h2
      by_cases c : j0 < j
      · exact ⟨j0, by omega, by unfold delF; rw [if_pos c]; exact hp0⟩
      · refine ⟨j0 - 1, by omega, ?_⟩
        unfold delF
        rw [if_neg (by omega), show j0 - 1 + 1 = j0 by omega]; exact hp0
    · intro k' hk' hno
      by_cases c : k' = k0
      · subst c; rw [updQ_same]; exact hnil
      · rw [updQ_ne c]
        refine hrest k' hk' fun j0 hj0 hc => ?_
        have hcj : j0 ≠ j := by
          rintro rfl
          rw [e1] at hc; omega
        by_cases c2 : j0 < j
        · exact hno j0 (by omega) (by unfold delF; rw [if_pos c2]; exact hc)
        · refine hno (j0 - 1) (by omega) ?_
          unfold delF
          rw [if_neg (by omega), show j0 - 1 + 1 = j0 by omega]; exact hc
  · have hord := hl.ord j hj
    rw [← hjp]
    refine (take_less w lp s K v u n f hl j hj (ord i).qt ⟨by omega, by rw [e5]; omega⟩ true (fun _ => by omega) (by rw [e4, e3]; omega)).mono ?_
    rintro e w' ⟨rfl, F, hl'⟩
    have F' : Fr (lp :: v.ownBlock.toList) w w' := F.mono fun x hx => List.mem_cons_of_mem _ hx
    have hq' := hq.fr F' (hqS _ (.inl rfl)) (hqS _ (.inr (.inl rfl))) (hqS _ (.inr (.inr rfl)))
    refine ⟨k0, v, by rw [e1], F', rfl, u, n, _, _, hl', hq', ?_, ?_, ?_⟩
    · intro j' hj'
      by_cases c : j' = j
      · subst c
        refine ⟨k0, by rw [updF_self]; exact e1, e2, ?_, ?_, ?_⟩
        · rw [updF_self, updQ_same, onL_less, ← e3]
        · rw [updF_self, updQ_same, less_split hnd hAB]
          simp only [if_true]
          rw [e4, hAB]; simp; omega
        · rw [updF_self, updQ_same, hsl, e5]
      · obtain ⟨k', a0, a1, a2, a3, a4, a5⟩ := hstay j' hj' c
        refine ⟨k', by rw [updF_ne c]; exact a1, a2, ?_, ?_, ?_⟩
        · rw [updF_ne c, updQ_ne a0]; exact a3
        · rw [updF_ne c, updQ_ne a0]; exact a4
        · rw [updF_ne c, updQ_ne a0]; exact a5
    · intro a ha hsa
      obtain ⟨m1, m2⟩ := less_mem.1 ha
      obtain ⟨j0, hj0, hp0⟩ := hhas a m1 hsa
      refine ⟨j0, hj0, ?_⟩
      by_cases c : j0 = j
      · subst c; rw [updF_self]; exact hp0
      · rw [updF_ne c]; exact hp0
    · intro k' hk' hno
      have c : k' ≠ k0 := by
        intro e
        exact hno j hj (by rw [updF_self]; rw [e]; exact e1)
      rw [updQ_ne c]
      refine hrest k' hk' fun j0 hj0 hc => ?_
      refine hno j0 hj0 ?_
      by_cases c : j0 = j
      · subst c; rw [updF_self]; exact hc
      · rw [updF_ne c]; exact hc
end Go.Proofs.Ytkimldeagndgjaa
