/- One side of a book: an order is put, walked. -/
import Derived.Test.YtkimldeagndgjaaSide
namespace Go.Proofs.Ytkimldeagndgjaa
set_option linter.unusedVariables false
set_option linter.unusedSimpArgs false
open Go.RowKit

theorem updQ_same (L : Nat → List Nat) (k : Nat) (l : List Nat) : updQ L k l k = l := by simp [updQ]
theorem updQ_ne {L : Nat → List Nat} {k j : Nat} {l : List Nat} (h : j ≠ k) : updQ L k l j = L j := by simp [updQ, h]
theorem onL_mem {s p : Int} {T : List Nat} {ord : Nat → Ord} {i : Nat} : i ∈ onL s p T ord ↔ i ∈ T ∧ (ord i).sd = s ∧ (ord i).pr = p := by
  unfold onL; rw [List.mem_filter]; simp
/-- A side that an order of the other side is put to. -/
theorem SideI.skip {w : World} {s : Int} {lp : Nat} {v : Value} {bq bn be N K : Nat} {T : List Nat} {ord : Nat → Ord} (h : SideI w s lp v bq bn be N K T ord) {i : Nat} (hi : i ∉ T) {o : Ord} (ho : o.sd ≠ s) :
    SideI w s lp v bq bn be N K (T ++ [i]) (updO ord i o) := by
  obtain ⟨u, n, f, Lq, hl, hq, hlev, hhas, hrest⟩ := h.ex
  refine ⟨u, n, f, Lq, hl, hq, ?_, ?_, hrest⟩
  · intro j hj
    obtain ⟨k, h1, h2, h3, h4, h5⟩ := hlev j hj
    refine ⟨k, h1, h2, ?_, h4, ?_⟩
    · rw [onL_snoc hi, if_neg (fun c => ho c.1), List.append_nil]; exact h3
    · rw [h5]
      refine sumS_congr fun a ha => ?_
      rw [h3] at ha
      rw [updO_ne (show a ≠ i from fun e => hi (e ▸ (onL_mem.1 ha).1))]
  · intro a ha hs
    rcases List.mem_append.1 ha with ha | ha
    · have e : a ≠ i := fun e => hi (e ▸ ha)
      rw [updO_ne e] at hs ⊢
      exact hhas a ha hs
    · rw [List.mem_singleton.1 ha, updO_same] at hs; exact absurd hs ho
theorem SideI.fr {w W : World} {s : Int} {lp : Nat} {v : Value} {bq bn be N K : Nat} {T : List Nat} {ord : Nat → Ord} (h : SideI w s lp v bq bn be N K T ord) {S : List Nat} (hf : Fr S w W)
    (h1 : lp ∉ S) (h2 : ∀ g, v.ownBlock = some g → g ∉ S) (h3 : bq ∉ S) (h4 : bn ∉ S) (h5 : be ∉ S) : SideI W s lp v bq bn be N K T ord := by
  obtain ⟨u, n, f, Lq, hl, hq, hr⟩ := h.ex
  exact ⟨u, n, f, Lq, ⟨hl.r.fr hf h1 h2, hl.word, hl.bit, hl.low, hl.qty, hl.ord, hl.inj, hl.own⟩, hq.fr hf h3 h4 h5, hr⟩

set_option maxHeartbeats 1000000 in
theorem side_put (w : World) (s : Int) (lp : Nat) (v : Value) (bq bn be N K : Nat) (T : List Nat) (ord : Nat → Ord) (h : SideI w s lp v bq bn be N K T ord) (ht : Times N T ord) (hK : K ≤ 400) (i : Nat) (hi : i ∉ T) (o : Ord) (ho : Good o) (hs : o.sd = s)
    (hfit : FitsL s o.pr (T.map ord) K) :
    Calls Try.prog 87 #[.pointer (some ⟨lp, 0, none⟩), .int .i64 o.pr, .int .i64 o.qt] w fun e w' => ∃ (k : Nat) (v' : Value), e = .returned (.tuple #[.int .i64 k, .int .i64 0]) ∧ Fr (lp :: v.ownBlock.toList) w w' ∧
      (v'.ownBlock = v.ownBlock ∨ ∃ g, v'.ownBlock = some g ∧ w.heap.size ≤ g) ∧ Half w' s lp v' bq bn be N K k i (T ++ [i]) (updO ord i o) := by
  obtain ⟨u, n, f, Lq, hl, hq, hlev, hhas, hrest⟩ := h.ex
  have hfits := (fits_iff hl hlev hhas o.pr).2 hfit
  have hLK : ∀ k, k < K → ∀ a ∈ Lq k, a ∈ T := by
    intro k hk a ha
    by_cases c : ∃ j, j < n ∧ (f j).queue = k
    · obtain ⟨j, hj, hjk⟩ := c
      obtain ⟨k', e1, _, e3, _⟩ := hlev j hj
      have : k' = k := by rw [hjk] at e1; omega
      subst this
      rw [e3] at ha
      exact (onL_mem.1 ha).1
    · rw [hrest k hk (fun j hj e => c ⟨j, hj, e⟩)] at ha; cases ha
  have hnot : ∀ k, k < K → i ∉ Lq k := fun k hk ha => hi (hLK k hk i ha)
  have hlpq : bq ≠ lp ∧ bn ≠ lp ∧ be ≠ lp := hq.ne hl.r.b (by decide) (by decide) (by decide)
  have hvq : ∀ g, v.ownBlock = some g → bq ≠ g ∧ bn ≠ g ∧ be ≠ g := fun g hg => by
    obtain ⟨cur, B⟩ := hl.r.r.blk hg
    exact hq.ne B (by decide) (by decide) (by decide)
  have hqS : ∀ x, x = bq ∨ x = bn ∨ x = be → x ∉ (lp :: v.ownBlock.toList) := by
    intro x hx hm
    rcases List.mem_cons.1 hm with e | e
    · rcases hx with rfl | rfl | rfl
      · exact hlpq.1 e
      · exact hlpq.2.1 e
      · exact hlpq.2.2 e
    · have hg : v.ownBlock = some x := by simpa using e
      have := hvq x hg
      rcases hx with rfl | rfl | rfl
      · exact this.1 rfl
      · exact this.2.1 rfl
      · exact this.2.2 rfl
  have hqt := ho.qt
  have hpr := ho.pr
  by_cases hp : ∃ j, j < n ∧ (f j).price = o.pr
  · obtain ⟨j, hj, hjp⟩ := hp
    obtain ⟨k, e1, e2, e3, e4, e5⟩ := hlev j hj
    have hsum := ht.sum s (f j).price
    have hlen := ht.onL_len s (f j).price
    have hN := ht.N2
    rw [← hjp]
    refine (put_more w lp s K v u n f hl j hj o.qt ⟨by omega, by omega⟩ (by rw [e5, e3]; omega) (by rw [e4, e3]; omega)).mono ?_
    rintro e w' ⟨rfl, F, hl'⟩
    have F' : Fr (lp :: v.ownBlock.toList) w w' := F.mono fun x hx => List.mem_cons_of_mem _ hx
    refine ⟨k, v, by rw [e1], F', .inl rfl, Lq, hq.fr F' (hqS _ (.inl rfl)) (hqS _ (.inr (.inl rfl))) (hqS _ (.inr (.inr rfl))), e2, hnot, ?_⟩
    intro w2 F2 hq2
    have b1 : ∀ x, x ∈ [bn, be] → x ≠ lp ∧ ∀ g, v.ownBlock = some g → x ≠ g := by
      intro x hx
      rcases (show x = bn ∨ x = be by simpa using hx) with rfl | rfl
      · exact ⟨hlpq.2.1, fun g hg => (hvq g hg).2.1⟩
      · exact ⟨hlpq.2.2, fun g hg => (hvq g hg).2.2⟩
    have hl2 : LadI w2 lp s K v u n _ := ⟨hl'.r.fr F2 (fun hm => (b1 _ hm).1 rfl) (fun g hg hm => (b1 _ hm).2 g hg rfl), hl'.word, hl'.bit, hl'.low, hl'.qty, hl'.ord, hl'.inj, hl'.own⟩
    refine ⟨u, n, _, _, hl2, hq2, ?_, ?_, ?_⟩
    · intro j' hj'
      by_cases c : j' = j
      · subst c
        refine ⟨k, by rw [updF_self]; exact e1, e2, ?_, ?_, ?_⟩
        · rw [updF_self]
          rw [updQ_same]
          rw [onL_snoc hi, if_pos ⟨hs, hjp.symm⟩, e3]
        · rw [updF_self]
          rw [updQ_same, List.length_append, List.length_singleton]
          rw [e4]; simp
        · rw [updF_self]
          rw [updQ_same]
          rw [sumS_snoc, updO_same, e5]
          have e6 : sumS ord (Lq k) = sumS (updO ord i o) (Lq k) := sumS_congr fun a ha => by rw [updO_ne (show a ≠ i from fun e => hnot k e2 (e ▸ ha))]
          rw [e6]
      · obtain ⟨k', a1, a2, a3, a4, a5⟩ := hlev j' hj'
        have hkk : k' ≠ k := by
          intro e
          exact c (hl.inj j' j hj' hj (by rw [a1, e1, e]))
        have hpp : (f j').price ≠ (f j).price := by
          rcases Nat.lt_or_gt_of_ne c with c | c
          · exact keyI_ne (hl.r.sorted j' j c hj)
          · exact (keyI_ne (hl.r.sorted j j' c hj')).symm
        refine ⟨k', by rw [updF_ne c]; exact a1, a2, ?_, ?_, ?_⟩
        · rw [updF_ne c]
          rw [updQ_ne hkk]
          rw [onL_snoc hi, if_neg (fun h => hpp (hjp ▸ h.2).symm), List.append_nil]; exact a3
        · rw [updF_ne c]; rw [updQ_ne hkk]; exact a4
        · rw [updF_ne c]; rw [updQ_ne hkk]; rw [a5]
          refine sumS_congr fun a ha => ?_
          rw [updO_ne (show a ≠ i from fun e => hnot k' a2 (e ▸ ha))]
    · intro a ha hsa
      rcases List.mem_append.1 ha with ha | ha
      · have e : a ≠ i := fun e => hi (e ▸ ha)
        rw [updO_ne e] at hsa ⊢
        obtain ⟨j', hj', hp'⟩ := hhas a ha hsa
        refine ⟨j', hj', ?_⟩
        by_cases c : j' = j
        · subst c; rw [updF_self]; exact hp'
        · rw [updF_ne c]; exact hp'
      · rw [List.mem_singleton.1 ha, updO_same]
        exact ⟨j, hj, by rw [updF_self]; exact hjp⟩
    · intro k' hk' hno
      have hkk : k' ≠ k := by
        intro e
        exact hno j hj (by rw [updF_self]; rw [e]; exact e1)
      rw [updQ_ne hkk]
      refine hrest k' hk' fun j' hj' hc => ?_
      refine hno j' hj' ?_
      by_cases c : j' = j
      · subst c; rw [updF_self]; exact hc
      · rw [updF_ne c]; exact hc
  · have hno : ∀ j, j < n → (f j).price ≠ o.pr := fun j hj e => hp ⟨j, hj, e⟩
    have hroom : (n : Int) < K := hfits.resolve_left hp
    refine (put_new w lp s K v u n f hl o.pr o.qt ⟨by omega, by omega⟩ ⟨by omega, by omega⟩ hno hroom).mono ?_
    rintro e w' ⟨k, x, v', rfl, F, hv', hpl, hl', hkf, hkl⟩
    have hx : x ≤ n := hpl.1
    have hmost := hl.r.hmost.2
    have hin : insF f x ⟨o.pr, o.qt, 1, k⟩ x = ⟨o.pr, o.qt, 1, k⟩ := by simp [insF]
    have hkK : k < K := by
      have := (hl'.low x (by omega)).2
      rw [hin] at this
      simpa using this
    have hkn : ∀ j, j < n → (f j).queue ≠ k := by
      intro j hj e
      have := (hl.bit k (by omega)).2 ⟨j, hj, e⟩
      rw [hkf] at this; cases this
    have hLk : Lq k = [] := hrest k hkK hkn
    refine ⟨k, v', rfl, F, hv', Lq, hq.fr F (hqS _ (.inl rfl)) (hqS _ (.inr (.inl rfl))) (hqS _ (.inr (.inr rfl))), hkK, hnot, ?_⟩
    intro w2 F2 hq2
    have hq' := hq.fr F (hqS _ (.inl rfl)) (hqS _ (.inr (.inl rfl))) (hqS _ (.inr (.inr rfl)))
    have hlpq' : bq ≠ lp ∧ bn ≠ lp ∧ be ≠ lp := hq'.ne hl'.r.b (by decide) (by decide) (by decide)
    have hvq' : ∀ g, v'.ownBlock = some g → bq ≠ g ∧ bn ≠ g ∧ be ≠ g := fun g hg => by
      obtain ⟨cur, B⟩ := hl'.r.r.blk hg
      exact hq'.ne B (by decide) (by decide) (by decide)
    have b1 : ∀ x, x ∈ [bn, be] → x ≠ lp ∧ ∀ g, v'.ownBlock = some g → x ≠ g := by
      intro x hx
      rcases (show x = bn ∨ x = be by simpa using hx) with rfl | rfl
      · exact ⟨hlpq'.2.1, fun g hg => (hvq' g hg).2.1⟩
      · exact ⟨hlpq'.2.2, fun g hg => (hvq' g hg).2.2⟩
    have hl2 : LadI w2 lp s K v' (setU u k) (n + 1) _ := ⟨hl'.r.fr F2 (fun hm => (b1 _ hm).1 rfl) (fun g hg hm => (b1 _ hm).2 g hg rfl), hl'.word, hl'.bit, hl'.low, hl'.qty, hl'.ord, hl'.inj, hl'.own⟩
    refine ⟨_, _, _, _, hl2, hq2, ?_, ?_, ?_⟩
    · intro j' hj'
      rcases insF_cases (f := f) (x := ⟨o.pr, o.qt, 1, k⟩) hx j' hj' with ⟨rfl, h2⟩ | ⟨j0, hj0, h2, _⟩
      · refine ⟨k, by rw [h2], hkK, ?_, ?_, ?_⟩
        · rw [h2]
          rw [updQ_same, hLk]
          rw [onL_snoc hi, if_pos ⟨hs, rfl⟩]
          have : onL s o.pr T ord = [] := by
            rw [List.eq_nil_iff_forall_not_mem]
            intro a ha
            obtain ⟨m1, m2, m3⟩ := onL_mem.1 ha
            obtain ⟨j, hj, hjp⟩ := hhas a m1 m2
            exact hno j hj (hjp.trans m3)
          rw [this]
        · rw [h2]; rw [updQ_same, hLk]; simp
        · rw [h2]; rw [updQ_same, hLk]; simp [sumS, updO_same]
      · obtain ⟨k', a1, a2, a3, a4, a5⟩ := hlev j0 hj0
        have hkk : k' ≠ k := by
          intro e
          exact hkn j0 hj0 (by rw [a1, e])
        refine ⟨k', by rw [h2]; exact a1, a2, ?_, ?_, ?_⟩
        · rw [h2]
          rw [updQ_ne hkk]
          rw [onL_snoc hi, if_neg (fun h => hno j0 hj0 h.2.symm), List.append_nil]; exact a3
        · rw [h2]; rw [updQ_ne hkk]; exact a4
        · rw [h2]; rw [updQ_ne hkk]; rw [a5]
          refine sumS_congr fun a ha => ?_
          rw [updO_ne (show a ≠ i from fun e => hnot k' a2 (e ▸ ha))]
    · intro a ha hsa
      rcases List.mem_append.1 ha with ha | ha
      · have e : a ≠ i := fun e => hi (e ▸ ha)
        rw [updO_ne e] at hsa ⊢
        obtain ⟨j', hj', hp'⟩ := hhas a ha hsa
        obtain ⟨k', b1, _, b3⟩ := insF_old (f := f) (x := ⟨o.pr, o.qt, 1, k⟩) hx j' hj'
        exact ⟨k', b1, by rw [b3]; exact hp'⟩
      · rw [List.mem_singleton.1 ha, updO_same]
        exact ⟨x, by omega, by rw [hin]⟩
    · intro k' hk' hno'
      have hkk : k' ≠ k := by
        intro e
        exact hno' x (by omega) (by rw [hin]; rw [e])
      rw [updQ_ne hkk]
      refine hrest k' hk' fun j' hj' hc => ?_
      obtain ⟨k2, b1, _, b3⟩ := insF_old (f := f) (x := ⟨o.pr, o.qt, 1, k⟩) hx j' hj'
      exact hno' k2 b1 (by rw [b3]; exact hc)
end Go.Proofs.Ytkimldeagndgjaa
