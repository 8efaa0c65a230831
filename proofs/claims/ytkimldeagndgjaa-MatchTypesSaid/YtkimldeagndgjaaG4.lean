/- Words and contracts: Side SideB SideC SideD SideE. -/
import Derived.Test.YtkimldeagndgjaaG0
import Derived.Test.YtkimldeagndgjaaG1
import Derived.Test.YtkimldeagndgjaaG2
import Derived.Test.YtkimldeagndgjaaG3
/- One side of a book: its levels and their queues, over the slots in the order of time. -/
namespace Go.Proofs.Ytkimldeagndgjaa
set_option linter.unusedVariables false
set_option linter.unusedSimpArgs false
open Go.RowKit

/-- The slots of one side at one price, in the order of time. -/
def onL (s p : Int) (T : List Nat) (ord : Nat → Ord) : List Nat := T.filter fun i => decide ((ord i).sd = s ∧ (ord i).pr = p)
def sumS (ord : Nat → Ord) (l : List Nat) : Int := (l.map fun i => (ord i).qt).sum
theorem onL_snoc {s p : Int} {T : List Nat} {ord : Nat → Ord} {i : Nat} {o : Ord} (hi : i ∉ T) : onL s p (T ++ [i]) (updO ord i o) = onL s p T ord ++ (if o.sd = s ∧ o.pr = p then [i] else []) := by
  unfold onL
  rw [List.filter_append]
  congr 1
  · refine List.filter_congr fun j hj => ?_
    rw [updO_ne (show j ≠ i from fun e => hi (e ▸ hj))]
  · by_cases c : o.sd = s ∧ o.pr = p
    · simp [updO_same, c]
    · simp [updO_same, c]
theorem sumS_congr {ord ord' : Nat → Ord} {l : List Nat} (h : ∀ i ∈ l, (ord i).qt = (ord' i).qt) : sumS ord l = sumS ord' l := by
  unfold sumS; rw [List.map_congr_left h]
theorem sumS_snoc (ord : Nat → Ord) (l : List Nat) (i : Nat) : sumS ord (l ++ [i]) = sumS ord l + (ord i).qt := by simp [sumS]
theorem sumS_le {ord : Nat → Ord} {l : List Nat} {m : Int} (h : ∀ i ∈ l, (ord i).qt ≤ m) : sumS ord l ≤ l.length * m := by
  induction l with
  | nil => simp [sumS]
  | cons a r ih =>
    have h1 := h a (by simp)
    have h2 := ih fun i hi => h i (by simp [hi])
    simp only [sumS, List.map_cons, List.sum_cons, List.length_cons] at h2 ⊢
    have e : ((r.length + 1 : Nat) : Int) * m = r.length * m + m := by rw [Int.natCast_add, Int.add_mul]; simp
    rw [e]; omega

/-- An order that a book takes. -/
structure Good (o : Ord) : Prop where
  sd : o.sd = 0 ∨ o.sd = 1
  pr : 1 ≤ o.pr ∧ o.pr ≤ 1099511627776
  qt : 1 ≤ o.qt ∧ o.qt ≤ 4294967296
/-- The slots that are taken, in the order of time. -/
structure Times (N : Nat) (T : List Nat) (ord : Nat → Ord) : Prop where
  nd : T.Nodup
  lt : ∀ i ∈ T, i < N
  good : ∀ i ∈ T, Good (ord i)
  N2 : N ≤ 500
theorem Times.len {N : Nat} {T : List Nat} {ord : Nat → Ord} (h : Times N T ord) : T.length ≤ N := by
  have := List.Nodup.length_le_of_subset h.nd (l₂ := List.range N) (fun i hi => by simpa using h.lt i hi)
  simpa using this
theorem Times.onL_len {N : Nat} {T : List Nat} {ord : Nat → Ord} (h : Times N T ord) (s p : Int) : (onL s p T ord).length ≤ N := Nat.le_trans (List.length_filter_le _ _) h.len
theorem Times.sum {N : Nat} {T : List Nat} {ord : Nat → Ord} (h : Times N T ord) (s p : Int) : sumS ord (onL s p T ord) ≤ 2147483648000 := by
  have h1 := sumS_le (l := onL s p T ord) (ord := ord) (m := 4294967296) fun i hi => (h.good i (List.mem_filter.1 hi).1).qt.2
  have h2 := h.onL_len s p
  have h3 := h.N2
  have h4 : ((onL s p T ord).length : Int) ≤ 500 := by omega
  omega

structure SideI (w : World) (s : Int) (lp : Nat) (v : Value) (bq bn be N K : Nat) (T : List Nat) (ord : Nat → Ord) : Prop where
  ex : ∃ u n f Lq, LadI w lp s K v u n f ∧ AbsQ w bq bn be N K Lq ∧
    (∀ j, j < n → ∃ k : Nat, (f j).queue = k ∧ k < K ∧ Lq k = onL s (f j).price T ord ∧ (f j).orders = (Lq k).length ∧ (f j).qty = sumS ord (Lq k)) ∧
    (∀ i ∈ T, (ord i).sd = s → ∃ j, j < n ∧ (f j).price = (ord i).pr) ∧
    (∀ k, k < K → (∀ j, j < n → (f j).queue ≠ k) → Lq k = [])

theorem RowL.blk {w : World} {v : Value} {n : Nat} {f : Nat → Lvl} (h : RowL w v n f) {g : Nat} (hg : v.ownBlock = some g) : ∃ cur, Blk w g 159 cur := by
  rcases h with h | ⟨lb, cap, cur, rfl, h1, B, h2, h3⟩
  · obtain ⟨rfl, rfl⟩ := h
    simp [Value.ownBlock] at hg
  · simp [Value.ownBlock] at hg
    subst hg
    exact ⟨_, B⟩
theorem AbsQ.ne {w : World} {bq bn be N K : Nat} {L : Nat → List Nat} (h : AbsQ w bq bn be N K L) {g : Nat} {t : TypeId} {cs : Array Value} (B : Blk w g t cs) (h1 : t ≠ 208) (h2 : t ≠ 210) (h3 : t ≠ 213) : bq ≠ g ∧ bn ≠ g ∧ be ≠ g := by
  obtain ⟨nd, en, r, _⟩ := h
  exact ⟨r.q.ne B (Ne.symm h1), r.n.ne B (Ne.symm h2), r.e.ne B (Ne.symm h3)⟩

/-- May a price be on a side? -/
def FitsL (s p : Int) (L : List Ord) (K : Nat) : Prop := (∃ x ∈ L, x.sd = s ∧ x.pr = p) ∨ ∃ P : List Int, P.Nodup ∧ (∀ q, q ∈ P ↔ ∃ x ∈ L, x.sd = s ∧ x.pr = q) ∧ P.length < K

theorem keyI_ne {s a b : Int} (h : keyI s a < keyI s b) : a ≠ b := fun e => by rw [e] at h; omega
section
variable {w : World} {s : Int} {lp : Nat} {v : Value} {bq bn be N K : Nat} {T : List Nat} {ord : Nat → Ord} {u : Nat → Nat} {n : Nat} {f : Nat → Lvl} {Lq : Nat → List Nat}
theorem lev_iff (hl : LadI w lp s K v u n f)
    (hlev : ∀ j, j < n → ∃ k : Nat, (f j).queue = k ∧ k < K ∧ Lq k = onL s (f j).price T ord ∧ (f j).orders = (Lq k).length ∧ (f j).qty = sumS ord (Lq k))
    (hhas : ∀ i ∈ T, (ord i).sd = s → ∃ j, j < n ∧ (f j).price = (ord i).pr) (p : Int) : (∃ j, j < n ∧ (f j).price = p) ↔ ∃ x ∈ T.map ord, x.sd = s ∧ x.pr = p := by
  constructor
  · rintro ⟨j, hj, rfl⟩
    obtain ⟨k, _, _, h1, h2, _⟩ := hlev j hj
    have h3 := hl.ord j hj
    have h4 : Lq k ≠ [] := fun e => by rw [e] at h2; simp at h2; omega
    obtain ⟨i, hi⟩ := List.exists_mem_of_ne_nil _ h4
    rw [h1] at hi
    obtain ⟨h5, h6⟩ := List.mem_filter.1 hi
    have h7 := of_decide_eq_true h6
    exact ⟨ord i, List.mem_map.2 ⟨i, h5, rfl⟩, h7⟩
  · rintro ⟨x, hx, h1, rfl⟩
    obtain ⟨i, hi, rfl⟩ := List.mem_map.1 hx
    exact hhas i hi h1
theorem fits_iff (hl : LadI w lp s K v u n f)
    (hlev : ∀ j, j < n → ∃ k : Nat, (f j).queue = k ∧ k < K ∧ Lq k = onL s (f j).price T ord ∧ (f j).orders = (Lq k).length ∧ (f j).qty = sumS ord (Lq k))
    (hhas : ∀ i ∈ T, (ord i).sd = s → ∃ j, j < n ∧ (f j).price = (ord i).pr) (p : Int) : ((∃ j, j < n ∧ (f j).price = p) ∨ (n : Int) < K) ↔ FitsL s p (T.map ord) K := by
  unfold FitsL
  have hiff := lev_iff hl hlev hhas
  have hnd : ((List.range n).map fun j => (f j).price).Nodup := by
    unfold List.Nodup
    rw [List.pairwise_map]
    refine List.Pairwise.imp_of_mem ?_ (List.pairwise_lt_range (n := n))
    intro a b ha hb hab
    exact keyI_ne (hl.r.sorted a b hab (by simpa using hb))
  have hmem : ∀ q, q ∈ ((List.range n).map fun j => (f j).price) ↔ ∃ x ∈ T.map ord, x.sd = s ∧ x.pr = q := by
    intro q
    rw [← hiff q]
    simp
  constructor
  · rintro (h | h)
    · exact .inl ((hiff p).1 h)
    · exact .inr ⟨_, hnd, hmem, by simp; omega⟩
  · rintro (h | ⟨P, h1, h2, h3⟩)
    · exact .inl ((hiff p).2 h)
    · right
      have hp : P.Perm ((List.range n).map fun j => (f j).price) := (List.perm_ext_iff_of_nodup h1 hnd).2 fun q => by rw [h2 q, hmem q]
      have := hp.length_eq
      simp at this
      omega
end
theorem side_fits (w : World) (s : Int) (lp : Nat) (v : Value) (bq bn be N K : Nat) (T : List Nat) (ord : Nat → Ord) (h : SideI w s lp v bq bn be N K T ord) (p : Int) (hp : In63 p) (b : Bool) (hb : b = true ↔ FitsL s p (T.map ord) K) :
    Calls Try.prog 110 #[.pointer (some ⟨lp, 0, none⟩), .int .i64 p] w fun e w' => e = .returned (.bool b) ∧ Fr [] w w' := by
  obtain ⟨u, n, f, Lq, hl, hq, hlev, hhas, hrest⟩ := h.ex
  exact fits_any w lp s K v u n f hl.r p hp b ((fits_iff hl hlev hhas p).trans hb.symm)

/-- .. with a level's order counted whose slot is not in its queue yet. -/
def Half (w : World) (s : Int) (lp : Nat) (v : Value) (bq bn be N K k i : Nat) (T : List Nat) (ord : Nat → Ord) : Prop :=
  ∃ Lq, AbsQ w bq bn be N K Lq ∧ k < K ∧ (∀ j, j < K → i ∉ Lq j) ∧ ∀ w', Fr [bn, be] w w' → AbsQ w' bq bn be N K (updQ Lq k (Lq k ++ [i])) → SideI w' s lp v bq bn be N K T ord
end Go.Proofs.Ytkimldeagndgjaa

/- One side of a book: an order is put, walked. -/
namespace Go.Proofs.Ytkimldeagndgjaa
set_option linter.unusedVariables false
set_option linter.unusedSimpArgs false
open Go.RowKit

theorem updQ_same (L : Nat → List Nat) (k : Nat) (l : List Nat) : updQ L k l k = l := by simp [updQ]
theorem updQ_ne {L : Nat → List Nat} {k j : Nat} {l : List Nat} (h : j ≠ k) : updQ L k l j = L j := by simp [updQ, h]
theorem onL_mem {s p : Int} {T : List Nat} {ord : Nat → Ord} {i : Nat} : i ∈ onL s p T ord ↔ i ∈ T ∧ (ord i).sd = s ∧ (ord i).pr = p := by
  unfold onL; rw [List.mem_filter]; simp
/-- A side that an order of the other side is put to. -/
theorem SideI.skip {w : World} {s : Int} {lp : Nat} {v : Value} {bq bn be N K : Nat} {T : List Nat} {ord : Nat → Ord} (h : SideI w s lp v bq bn be N K T ord) {i : Nat} (hi : i ∉ T) {o : Ord} (ho : o.sd ≠ s) :
    SideI w s lp v bq bn be N K (T ++ [i]) (updO ord i o) := by
  obtain ⟨u, n, f, Lq, hl, hq, hlev, hhas, hrest⟩ := h.ex
  refine ⟨u, n, f, Lq, hl, hq, ?_, ?_, hrest⟩
  · intro j hj
    obtain ⟨k, h1, h2, h3, h4, h5⟩ := hlev j hj
    refine ⟨k, h1, h2, ?_, h4, ?_⟩
    · rw [onL_snoc hi, if_neg (fun c => ho c.1), List.append_nil]; exact h3
    · rw [h5]
      refine sumS_congr fun a ha => ?_
      rw [h3] at ha
      rw [updO_ne (show a ≠ i from fun e => hi (e ▸ (onL_mem.1 ha).1))]
  · intro a ha hs
    rcases List.mem_append.1 ha with ha | ha
    · have e : a ≠ i := fun e => hi (e ▸ ha)
      rw [updO_ne e] at hs ⊢
      exact hhas a ha hs
    · rw [List.mem_singleton.1 ha, updO_same] at hs; exact absurd hs ho
theorem SideI.fr {w W : World} {s : Int} {lp : Nat} {v : Value} {bq bn be N K : Nat} {T : List Nat} {ord : Nat → Ord} (h : SideI w s lp v bq bn be N K T ord) {S : List Nat} (hf : Fr S w W)
    (h1 : lp ∉ S) (h2 : ∀ g, v.ownBlock = some g → g ∉ S) (h3 : bq ∉ S) (h4 : bn ∉ S) (h5 : be ∉ S) : SideI W s lp v bq bn be N K T ord := by
  obtain ⟨u, n, f, Lq, hl, hq, hr⟩ := h.ex
  exact ⟨u, n, f, Lq, ⟨hl.r.fr hf h1 h2, hl.word, hl.bit, hl.low, hl.qty, hl.ord, hl.inj, hl.own⟩, hq.fr hf h3 h4 h5, hr⟩

set_option maxHeartbeats 1000000 in
theorem side_put (w : World) (s : Int) (lp : Nat) (v : Value) (bq bn be N K : Nat) (T : List Nat) (ord : Nat → Ord) (h : SideI w s lp v bq bn be N K T ord) (ht : Times N T ord) (hK : K ≤ 400) (i : Nat) (hi : i ∉ T) (o : Ord) (ho : Good o) (hs : o.sd = s)
    (hfit : FitsL s o.pr (T.map ord) K) :
    Calls Try.prog 87 #[.pointer (some ⟨lp, 0, none⟩), .int .i64 o.pr, .int .i64 o.qt] w fun e w' => ∃ (k : Nat) (v' : Value), e = .returned (.tuple #[.int .i64 k, .int .i64 0]) ∧ Fr (lp :: v.ownBlock.toList) w w' ∧
      (v'.ownBlock = v.ownBlock ∨ ∃ g, v'.ownBlock = some g ∧ w.heap.size ≤ g) ∧ Half w' s lp v' bq bn be N K k i (T ++ [i]) (updO ord i o) := by
  obtain ⟨u, n, f, Lq, hl, hq, hlev, hhas, hrest⟩ := h.ex
  have hfits := (fits_iff hl hlev hhas o.pr).2 hfit
  have hLK : ∀ k, k < K → ∀ a ∈ Lq k, a ∈ T := by
    intro k hk a ha
    by_cases c : ∃ j, j < n ∧ (f j).queue = k
    · obtain ⟨j, hj, hjk⟩ := c
      obtain ⟨k', e1, _, e3, _⟩ := hlev j hj
      have : k' = k := by rw [hjk] at e1; omega
      subst this
      rw [e3] at ha
      exact (onL_mem.1 ha).1
    · rw [hrest k hk (fun j hj e => c ⟨j, hj, e⟩)] at ha; cases ha
  have hnot : ∀ k, k < K → i ∉ Lq k := fun k hk ha => hi (hLK k hk i ha)
  have hlpq : bq ≠ lp ∧ bn ≠ lp ∧ be ≠ lp := hq.ne hl.r.b (by decide) (by decide) (by decide)
  have hvq : ∀ g, v.ownBlock = some g → bq ≠ g ∧ bn ≠ g ∧ be ≠ g := fun g hg => by
    obtain ⟨cur, B⟩ := hl.r.r.blk hg
    exact hq.ne B (by decide) (by decide) (by decide)
  have hqS : ∀ x, x = bq ∨ x = bn ∨ x = be → x ∉ (lp :: v.ownBlock.toList) := by
    intro x hx hm
    rcases List.mem_cons.1 hm with e | e
    · rcases hx with rfl | rfl | rfl
      · exact hlpq.1 e
      · exact hlpq.2.1 e
      · exact hlpq.2.2 e
    · have hg : v.ownBlock = some x := by simpa using e
      have := hvq x hg
      rcases hx with rfl | rfl | rfl
      · exact this.1 rfl
      · exact this.2.1 rfl
      · exact this.2.2 rfl
  have hqt := ho.qt
  have hpr := ho.pr
  by_cases hp : ∃ j, j < n ∧ (f j).price = o.pr
  · obtain ⟨j, hj, hjp⟩ := hp
    obtain ⟨k, e1, e2, e3, e4, e5⟩ := hlev j hj
    have hsum := ht.sum s (f j).price
    have hlen := ht.onL_len s (f j).price
    have hN := ht.N2
    rw [← hjp]
    refine (put_more w lp s K v u n f hl j hj o.qt ⟨by omega, by omega⟩ (by rw [e5, e3]; omega) (by rw [e4, e3]; omega)).mono ?_
    rintro e w' ⟨rfl, F, hl'⟩
    have F' : Fr (lp :: v.ownBlock.toList) w w' := F.mono fun x hx => List.mem_cons_of_mem _ hx
    refine ⟨k, v, by rw [e1], F', .inl rfl, Lq, hq.fr F' (hqS _ (.inl rfl)) (hqS _ (.inr (.inl rfl))) (hqS _ (.inr (.inr rfl))), e2, hnot, ?_⟩
    intro w2 F2 hq2
    have b1 : ∀ x, x ∈ [bn, be] → x ≠ lp ∧ ∀ g, v.ownBlock = some g → x ≠ g := by
      intro x hx
      rcases (show x = bn ∨ x = be by simpa using hx) with rfl | rfl
      · exact ⟨hlpq.2.1, fun g hg => (hvq g hg).2.1⟩
      · exact ⟨hlpq.2.2, fun g hg => (hvq g hg).2.2⟩
    have hl2 : LadI w2 lp s K v u n _ := ⟨hl'.r.fr F2 (fun hm => (b1 _ hm).1 rfl) (fun g hg hm => (b1 _ hm).2 g hg rfl), hl'.word, hl'.bit, hl'.low, hl'.qty, hl'.ord, hl'.inj, hl'.own⟩
    refine ⟨u, n, _, _, hl2, hq2, ?_, ?_, ?_⟩
    · intro j' hj'
      by_cases c : j' = j
      · subst c
        refine ⟨k, by rw [updF_self]; exact e1, e2, ?_, ?_, ?_⟩
        · rw [updF_self]
          rw [updQ_same]
          rw [onL_snoc hi, if_pos ⟨hs, hjp.symm⟩, e3]
        · rw [updF_self]
          rw [updQ_same, List.length_append, List.length_singleton]
          rw [e4]; simp
        · rw [updF_self]
          rw [updQ_same]
          rw [sumS_snoc, updO_same, e5]
          have e6 : sumS ord (Lq k) = sumS (updO ord i o) (Lq k) := sumS_congr fun a ha => by rw [updO_ne (show a ≠ i from fun e => hnot k e2 (e ▸ ha))]
          rw [e6]
      · obtain ⟨k', a1, a2, a3, a4, a5⟩ := hlev j' hj'
        have hkk : k' ≠ k := by
          intro e
          exact c (hl.inj j' j hj' hj (by rw [a1, e1, e]))
        have hpp : (f j').price ≠ (f j).price := by
          rcases Nat.lt_or_gt_of_ne c with c | c
          · exact keyI_ne (hl.r.sorted j' j c hj)
          · exact (keyI_ne (hl.r.sorted j j' c hj')).symm
        refine ⟨k', by rw [updF_ne c]; exact a1, a2, ?_, ?_, ?_⟩
        · rw [updF_ne c]
          rw [updQ_ne hkk]
          rw [onL_snoc hi, if_neg (fun h => hpp (hjp ▸ h.2).symm), List.append_nil]; exact a3
        · rw [updF_ne c]; rw [updQ_ne hkk]; exact a4
        · rw [updF_ne c]; rw [updQ_ne hkk]; rw [a5]
          refine sumS_congr fun a ha => ?_
          rw [updO_ne (show a ≠ i from fun e => hnot k' a2 (e ▸ ha))]
    · intro a ha hsa
      rcases List.mem_append.1 ha with ha | ha
      · have e : a ≠ i := fun e => hi (e ▸ ha)
        rw [updO_ne e] at hsa ⊢
        obtain ⟨j', hj', hp'⟩ := hhas a ha hsa
        refine ⟨j', hj', ?_⟩
        by_cases c : j' = j
        · subst c; rw [updF_self]; exact hp'
        · rw [updF_ne c]; exact hp'
      · rw [List.mem_singleton.1 ha, updO_same]
        exact ⟨j, hj, by rw [updF_self]; exact hjp⟩
    · intro k' hk' hno
      have hkk : k' ≠ k := by
        intro e
        exact hno j hj (by rw [updF_self]; rw [e]; exact e1)
      rw [updQ_ne hkk]
      refine hrest k' hk' fun j' hj' hc => ?_
      refine hno j' hj' ?_
      by_cases c : j' = j
      · subst c; rw [updF_self]; exact hc
      · rw [updF_ne c]; exact hc
  · have hno : ∀ j, j < n → (f j).price ≠ o.pr := fun j hj e => hp ⟨j, hj, e⟩
    have hroom : (n : Int) < K := hfits.resolve_left hp
    refine (put_new w lp s K v u n f hl o.pr o.qt ⟨by omega, by omega⟩ ⟨by omega, by omega⟩ hno hroom).mono ?_
    rintro e w' ⟨k, x, v', rfl, F, hv', hpl, hl', hkf, hkl⟩
    have hx : x ≤ n := hpl.1
    have hmost := hl.r.hmost.2
    have hin : insF f x ⟨o.pr, o.qt, 1, k⟩ x = ⟨o.pr, o.qt, 1, k⟩ := by simp [insF]
    have hkK : k < K := by
      have := (hl'.low x (by omega)).2
      rw [hin] at this
      simpa using this
    have hkn : ∀ j, j < n → (f j).queue ≠ k := by
      intro j hj e
      have := (hl.bit k (by omega)).2 ⟨j, hj, e⟩
      rw [hkf] at this; cases this
    have hLk : Lq k = [] := hrest k hkK hkn
    refine ⟨k, v', rfl, F, hv', Lq, hq.fr F (hqS _ (.inl rfl)) (hqS _ (.inr (.inl rfl))) (hqS _ (.inr (.inr rfl))), hkK, hnot, ?_⟩
    intro w2 F2 hq2
    have hq' := hq.fr F (hqS _ (.inl rfl)) (hqS _ (.inr (.inl rfl))) (hqS _ (.inr (.inr rfl)))
    have hlpq' : bq ≠ lp ∧ bn ≠ lp ∧ be ≠ lp := hq'.ne hl'.r.b (by decide) (by decide) (by decide)
    have hvq' : ∀ g, v'.ownBlock = some g → bq ≠ g ∧ bn ≠ g ∧ be ≠ g := fun g hg => by
      obtain ⟨cur, B⟩ := hl'.r.r.blk hg
      exact hq'.ne B (by decide) (by decide) (by decide)
    have b1 : ∀ x, x ∈ [bn, be] → x ≠ lp ∧ ∀ g, v'.ownBlock = some g → x ≠ g := by
      intro x hx
      rcases (show x = bn ∨ x = be by simpa using hx) with rfl | rfl
      · exact ⟨hlpq'.2.1, fun g hg => (hvq' g hg).2.1⟩
      · exact ⟨hlpq'.2.2, fun g hg => (hvq' g hg).2.2⟩
    have hl2 : LadI w2 lp s K v' (setU u k) (n + 1) _ := ⟨hl'.r.fr F2 (fun hm => (b1 _ hm).1 rfl) (fun g hg hm => (b1 _ hm).2 g hg rfl), hl'.word, hl'.bit, hl'.low, hl'.qty, hl'.ord, hl'.inj, hl'.own⟩
    refine ⟨_, _, _, _, hl2, hq2, ?_, ?_, ?_⟩
    · intro j' hj'
      rcases insF_cases (f := f) (x := ⟨o.pr, o.qt, 1, k⟩) hx j' hj' with ⟨rfl, h2⟩ | ⟨j0, hj0, h2, _⟩
      · refine ⟨k, by rw [h2], hkK, ?_, ?_, ?_⟩
        · rw [h2]
          rw [updQ_same, hLk]
          rw [onL_snoc hi, if_pos ⟨hs, rfl⟩]
          have : onL s o.pr T ord = [] := by
            rw [List.eq_nil_iff_forall_not_mem]
            intro a ha
            obtain ⟨m1, m2, m3⟩ := onL_mem.1 ha
            obtain ⟨j, hj, hjp⟩ := hhas a m1 m2
            exact hno j hj (hjp.trans m3)
          rw [this]
        · rw [h2]; rw [updQ_same, hLk]; simp
        · rw [h2]; rw [updQ_same, hLk]; simp [sumS, updO_same]
      · obtain ⟨k', a1, a2, a3, a4, a5⟩ := hlev j0 hj0
        have hkk : k' ≠ k := by
          intro e
          exact hkn j0 hj0 (by rw [a1, e])
        refine ⟨k', by rw [h2]; exact a1, a2, ?_, ?_, ?_⟩
        · rw [h2]
          rw [updQ_ne hkk]
          rw [onL_snoc hi, if_neg (fun h => hno j0 hj0 h.2.symm), List.append_nil]; exact a3
        · rw [h2]; rw [updQ_ne hkk]; exact a4
        · rw [h2]; rw [updQ_ne hkk]; rw [a5]
          refine sumS_congr fun a ha => ?_
          rw [updO_ne (show a ≠ i from fun e => hnot k' a2 (e ▸ ha))]
    · intro a ha hsa
      rcases List.mem_append.1 ha with ha | ha
      · have e : a ≠ i := fun e => hi (e ▸ ha)
        rw [updO_ne e] at hsa ⊢
        obtain ⟨j', hj', hp'⟩ := hhas a ha hsa
        obtain ⟨k', b1, _, b3⟩ := insF_old (f := f) (x := ⟨o.pr, o.qt, 1, k⟩) hx j' hj'
        exact ⟨k', b1, by rw [b3]; exact hp'⟩
      · rw [List.mem_singleton.1 ha, updO_same]
        exact ⟨x, by omega, by rw [hin]⟩
    · intro k' hk' hno'
      have hkk : k' ≠ k := by
        intro e
        exact hno' x (by omega) (by rw [hin]; rw [e])
      rw [updQ_ne hkk]
      refine hrest k' hk' fun j' hj' hc => ?_
      obtain ⟨k2, b1, _, b3⟩ := insF_old (f := f) (x := ⟨o.pr, o.qt, 1, k⟩) hx j' hj'
      exact hno' k2 b1 (by rw [b3]; exact hc)
end Go.Proofs.Ytkimldeagndgjaa

/- One side of a book: an order is removed, or less of it is left, walked. -/
namespace Go.Proofs.Ytkimldeagndgjaa
set_option linter.unusedVariables false
set_option linter.unusedSimpArgs false
open Go.RowKit

def less (l : List Nat) (i : Nat) : List Nat := l.filter fun a => decide (a ≠ i)
theorem less_split {l A B : List Nat} {i : Nat} (hn : l.Nodup) (h : l = A ++ i :: B) : less l i = A ++ B := by
  subst h
  have h1 := List.nodup_append.1 hn
  have h2 := List.nodup_cons.1 h1.2.1
  unfold less
  rw [List.filter_append, List.filter_cons]
  simp only [ne_eq, not_true, decide_false, Bool.false_eq_true, if_false]
  rw [List.filter_eq_self.2, List.filter_eq_self.2]
  · intro a ha
    simpa using fun e : a = i => h2.1 (e ▸ ha)
  · intro a ha
    simpa using fun e : a = i => h1.2.2 a ha i (by simp) e
theorem less_mem {l : List Nat} {i a : Nat} : a ∈ less l i ↔ a ∈ l ∧ a ≠ i := by unfold less; rw [List.mem_filter]; simp
theorem onL_less (s p : Int) (T : List Nat) (ord : Nat → Ord) (i : Nat) : onL s p (less T i) ord = less (onL s p T ord) i := by
  unfold onL less
  rw [List.filter_filter, List.filter_filter]
  exact List.filter_congr fun a _ => Bool.and_comm _ _
theorem less_not {l : List Nat} {i : Nat} (h : i ∉ l) : less l i = l := List.filter_eq_self.2 fun a ha => by simpa using fun e : a = i => h (e ▸ ha)
theorem sumS_less {ord : Nat → Ord} {l A B : List Nat} {i : Nat} (hn : l.Nodup) (h : l = A ++ i :: B) : sumS ord (less l i) = sumS ord l - (ord i).qt := by
  rw [less_split hn h, h]
  simp [sumS]; omega

/-- A side whose queue has given up a slot that its level still counts. -/
def HalfR (w : World) (s : Int) (lp : Nat) (v : Value) (bq bn be N K i : Nat) (T : List Nat) (ord : Nat → Ord) : Prop :=
  ∃ u n f Lq j, ∃ k : Nat, j < n ∧ LadI w lp s K v u n f ∧ AbsQ w bq bn be N K (updQ Lq k (less (Lq k) i)) ∧ (f j).queue = k ∧ k < K ∧ (f j).price = (ord i).pr ∧ i ∈ Lq k ∧
    (∀ j, j < n → ∃ k : Nat, (f j).queue = k ∧ k < K ∧ Lq k = onL s (f j).price T ord ∧ (f j).orders = (Lq k).length ∧ (f j).qty = sumS ord (Lq k)) ∧
    (∀ i ∈ T, (ord i).sd = s → ∃ j, j < n ∧ (f j).price = (ord i).pr) ∧
    (∀ k, k < K → (∀ j, j < n → (f j).queue ≠ k) → Lq k = [])

theorem HalfR.fr {w W : World} {s : Int} {lp : Nat} {v : Value} {bq bn be N K i : Nat} {T : List Nat} {ord : Nat → Ord} (h : HalfR w s lp v bq bn be N K i T ord) {S : List Nat} (hf : Fr S w W)
    (h1 : lp ∉ S) (h2 : ∀ g, v.ownBlock = some g → g ∉ S) (h3 : bq ∉ S) (h4 : bn ∉ S) (h5 : be ∉ S) : HalfR W s lp v bq bn be N K i T ord := by
  obtain ⟨u, n, f, Lq, j, k, hj, hl, hq, hr⟩ := h
  exact ⟨u, n, f, Lq, j, k, hj, ⟨hl.r.fr hf h1 h2, hl.word, hl.bit, hl.low, hl.qty, hl.ord, hl.inj, hl.own⟩, hq.fr hf h3 h4 h5, hr⟩

theorem side_rem (w : World) (s : Int) (lp : Nat) (v : Value) (bq bn be N K : Nat) (T : List Nat) (ord : Nat → Ord) (h : SideI w s lp v bq bn be N K T ord) (ht : Times N T ord) (i : Nat) (hi : i ∈ T) (hs : (ord i).sd = s) :
    Calls Try.prog 137 #[.pointer (some ⟨bq, 0, none⟩), .int .i64 i] w fun e w' => (∃ k : Nat, e = .returned (.tuple #[.int .i64 k, .bool true])) ∧ Fr [bn, be] w w' ∧ HalfR w' s lp v bq bn be N K i T ord := by
  obtain ⟨u, n, f, Lq, hl, hq, hlev, hhas, hrest⟩ := h.ex
  obtain ⟨j, hj, hjp⟩ := hhas i hi hs
  obtain ⟨k, e1, e2, e3, e4, e5⟩ := hlev j hj
  have hik : i ∈ Lq k := by rw [e3]; exact onL_mem.2 ⟨hi, hs, hjp.symm⟩
  have hnd : (Lq k).Nodup := by rw [e3]; exact ht.nd.filter _
  obtain ⟨A, B, hAB⟩ := List.append_of_mem hik
  refine (remove_yes hq k i A B e2 hAB).mono ?_
  rintro e w' ⟨rfl, F, hq'⟩
  have hlpq : bq ≠ lp ∧ bn ≠ lp ∧ be ≠ lp := hq.ne hl.r.b (by decide) (by decide) (by decide)
  have hvq : ∀ g, v.ownBlock = some g → bq ≠ g ∧ bn ≠ g ∧ be ≠ g := fun g hg => by
    obtain ⟨cur, B⟩ := hl.r.r.blk hg
    exact hq.ne B (by decide) (by decide) (by decide)
  have b1 : ∀ x, x ∈ [bn, be] → x ≠ lp ∧ ∀ g, v.ownBlock = some g → x ≠ g := by
    intro x hx
    rcases (show x = bn ∨ x = be by simpa using hx) with rfl | rfl
    · exact ⟨hlpq.2.1, fun g hg => (hvq g hg).2.1⟩
    · exact ⟨hlpq.2.2, fun g hg => (hvq g hg).2.2⟩
  have hl' : LadI w' lp s K v u n f := ⟨hl.r.fr F (fun hm => (b1 _ hm).1 rfl) (fun g hg hm => (b1 _ hm).2 g hg rfl), hl.word, hl.bit, hl.low, hl.qty, hl.ord, hl.inj, hl.own⟩
  exact ⟨⟨k, rfl⟩, F, u, n, f, Lq, j, k, hj, hl', by rw [less_split hnd hAB]; exact hq', e1, e2, hjp, hik, hlev, hhas, hrest⟩

set_option maxHeartbeats 1000000 in
theorem side_take (w : World) (s : Int) (lp : Nat) (v : Value) (bq bn be N K i : Nat) (T : List Nat) (ord : Nat → Ord) (h : HalfR w s lp v bq bn be N K i T ord) (ht : Times N T ord) :
    Calls Try.prog 105 #[.pointer (some ⟨lp, 0, none⟩), .int .i64 (ord i).pr, .int .i64 (ord i).qt, .bool true] w fun e w' => ∃ (k : Nat) (v' : Value), e = .returned (.tuple #[.int .i64 k, .int .i64 0]) ∧ Fr (lp :: v.ownBlock.toList) w w' ∧
      v'.ownBlock = v.ownBlock ∧ SideI w' s lp v' bq bn be N K (less T i) ord := by
  obtain ⟨u, n, f, Lq, j, k, hj, hl, hq, e1, e2, hjp, hik, hlev, hhas, hrest⟩ := h
  obtain ⟨k0, e1', _, e3, e4, e5⟩ := hlev j hj
  obtain rfl : k0 = k := by rw [e1] at e1'; omega
  have hiT := (onL_mem.1 (e3 ▸ hik)).1
  have his := (onL_mem.1 (e3 ▸ hik)).2.1
  have hnd : (Lq k0).Nodup := by rw [e3]; exact ht.nd.filter _
  obtain ⟨A, B, hAB⟩ := List.append_of_mem hik
  have hqt := (ht.good i hiT).qt
  have hsum0 : 0 ≤ sumS ord (less (Lq k0) i) := by
    have : ∀ l : List Nat, (∀ a ∈ l, a ∈ T) → 0 ≤ sumS ord l := by
      intro l
      induction l with
      | nil => intro _; simp [sumS]
      | cons a r ih =>
        intro hh
        have h1 := (ht.good a (hh a (by simp))).qt.1
        have h2 := ih fun b hb => hh b (by simp [hb])
        simp only [sumS, List.map_cons, List.sum_cons] at h2 ⊢
        omega
    refine this _ fun a ha => ?_
    exact (onL_mem.1 (e3 ▸ (less_mem.1 ha).1)).1
  have hsl := sumS_less (ord := ord) hnd hAB
  have hlen := ht.onL_len s (f j).price
  have hN := ht.N2
  have hlpq : bq ≠ lp ∧ bn ≠ lp ∧ be ≠ lp := hq.ne hl.r.b (by decide) (by decide) (by decide)
  have hvq : ∀ g, v.ownBlock = some g → bq ≠ g ∧ bn ≠ g ∧ be ≠ g := fun g hg => by
    obtain ⟨cur, B⟩ := hl.r.r.blk hg
    exact hq.ne B (by decide) (by decide) (by decide)
  have hqS : ∀ x, x = bq ∨ x = bn ∨ x = be → x ∉ (lp :: v.ownBlock.toList) := by
    intro x hx hm
    rcases List.mem_cons.1 hm with e | e
    · rcases hx with rfl | rfl | rfl
      · exact hlpq.1 e
      · exact hlpq.2.1 e
      · exact hlpq.2.2 e
    · have hg : v.ownBlock = some x := by simpa using e
      have := hvq x hg
      rcases hx with rfl | rfl | rfl
      · exact this.1 rfl
      · exact this.2.1 rfl
      · exact this.2.2 rfl
  have hother : ∀ j', j' < n → j' ≠ j → (f j').price ≠ (f j).price := by
    intro j' hj' c
    rcases Nat.lt_or_gt_of_ne c with c | c
    · exact keyI_ne (hl.r.sorted j' j c hj)
    · exact (keyI_ne (hl.r.sorted j j' c hj')).symm
  have hstay : ∀ j', j' < n → j' ≠ j → ∃ k : Nat, k ≠ k0 ∧ (f j').queue = k ∧ k < K ∧ Lq k = onL s (f j').price (less T i) ord ∧ (f j').orders = (Lq k).length ∧ (f j').qty = sumS ord (Lq k) := by
    intro j' hj' c
    obtain ⟨k', a1, a2, a3, a4, a5⟩ := hlev j' hj'
    refine ⟨k', ?_, a1, a2, ?_, a4, a5⟩
    · intro e
      exact c (hl.inj j' j hj' hj (by rw [a1, e1, e]))
    · rw [onL_less, less_not, ← a3]
      intro hm
      exact hother j' hj' c ((onL_mem.1 hm).2.2.symm.trans hjp.symm)
  by_cases hone : (f j).orders = 1
  · rw [← hjp]
    refine (take_last w lp s K v u n f hl j hj (ord i).qt ⟨by omega, by rw [e5]; omega⟩ hone).mono ?_
    rintro e w' ⟨rfl, F, v', u', hv', hl'⟩
    have hq' := hq.fr F (hqS _ (.inl rfl)) (hqS _ (.inr (.inl rfl))) (hqS _ (.inr (.inr rfl)))
    have hnil : less (Lq k0) i = [] := by
      have h1 : (Lq k0).length = 1 := by rw [hone] at e4; omega
      rw [less_split hnd hAB]
      rw [hAB] at h1
      simp at h1
      rw [List.eq_nil_of_length_eq_zero (l := A) (by omega), List.eq_nil_of_length_eq_zero (l := B) (by omega)]; rfl
    refine ⟨k0, v', by rw [e1], F, hv', u', n - 1, delF f j, _, hl', hq', ?_, ?_, ?_⟩
    · intro j' hj'
      obtain ⟨j0, hj0, hc, hd⟩ : ∃ j0, j0 < n ∧ j0 ≠ j ∧ delF f j j' = f j0 := by
        unfold delF
        by_cases c : j' < j
        · exact ⟨j', by omega, by omega, by rw [if_pos c]⟩
        · exact ⟨j' + 1, by omega, by omega, by rw [if_neg c]⟩
      obtain ⟨k', a0, a1, a2, a3, a4, a5⟩ := hstay j0 hj0 hc
      refine ⟨k', by rw [hd]; exact a1, a2, ?_, ?_, ?_⟩
      · rw [hd, updQ_ne a0]; exact a3
      · rw [hd, updQ_ne a0]; exact a4
      · rw [hd, updQ_ne a0]; exact a5
    · intro a ha hsa
      obtain ⟨m1, m2⟩ := less_mem.1 ha
      obtain ⟨j0, hj0, hp0⟩ := hhas a m1 hsa
      have hc : j0 ≠ j := by
        rintro rfl
        have h1 : a ∈ Lq k0 := by rw [e3]; exact onL_mem.2 ⟨m1, hsa, hp0.symm⟩
        have h2 : a ∈ less (Lq k0) i := less_mem.2 ⟨h1, m2⟩
        rw [hnil] at h2; cases h2
      by_cases c : j0 < j
      · exact ⟨j0, by omega, by unfold delF; rw [if_pos c]; exact hp0⟩
      · refine ⟨j0 - 1, by omega, ?_⟩
        unfold delF
        rw [if_neg (by omega), show j0 - 1 + 1 = j0 by omega]; exact hp0
    · intro k' hk' hno
      by_cases c : k' = k0
      · subst c; rw [updQ_same]; exact hnil
      · rw [updQ_ne c]
        refine hrest k' hk' fun j0 hj0 hc => ?_
        have hcj : j0 ≠ j := by
          rintro rfl
          rw [e1] at hc; omega
        by_cases c2 : j0 < j
        · exact hno j0 (by omega) (by unfold delF; rw [if_pos c2]; exact hc)
        · refine hno (j0 - 1) (by omega) ?_
          unfold delF
          rw [if_neg (by omega), show j0 - 1 + 1 = j0 by omega]; exact hc
  · have hord := hl.ord j hj
    rw [← hjp]
    refine (take_less w lp s K v u n f hl j hj (ord i).qt ⟨by omega, by rw [e5]; omega⟩ true (fun _ => by omega) (by rw [e4, e3]; omega)).mono ?_
    rintro e w' ⟨rfl, F, hl'⟩
    have F' : Fr (lp :: v.ownBlock.toList) w w' := F.mono fun x hx => List.mem_cons_of_mem _ hx
    have hq' := hq.fr F' (hqS _ (.inl rfl)) (hqS _ (.inr (.inl rfl))) (hqS _ (.inr (.inr rfl)))
    refine ⟨k0, v, by rw [e1], F', rfl, u, n, _, _, hl', hq', ?_, ?_, ?_⟩
    · intro j' hj'
      by_cases c : j' = j
      · subst c
        refine ⟨k0, by rw [updF_self]; exact e1, e2, ?_, ?_, ?_⟩
        · rw [updF_self, updQ_same, onL_less, ← e3]
        · rw [updF_self, updQ_same, less_split hnd hAB]
          simp only [if_true]
          rw [e4, hAB]; simp; omega
        · rw [updF_self, updQ_same, hsl, e5]
      · obtain ⟨k', a0, a1, a2, a3, a4, a5⟩ := hstay j' hj' c
        refine ⟨k', by rw [updF_ne c]; exact a1, a2, ?_, ?_, ?_⟩
        · rw [updF_ne c, updQ_ne a0]; exact a3
        · rw [updF_ne c, updQ_ne a0]; exact a4
        · rw [updF_ne c, updQ_ne a0]; exact a5
    · intro a ha hsa
      obtain ⟨m1, m2⟩ := less_mem.1 ha
      obtain ⟨j0, hj0, hp0⟩ := hhas a m1 hsa
      refine ⟨j0, hj0, ?_⟩
      by_cases c : j0 = j
      · subst c; rw [updF_self]; exact hp0
      · rw [updF_ne c]; exact hp0
    · intro k' hk' hno
      have c : k' ≠ k0 := by
        intro e
        exact hno j hj (by rw [updF_self]; rw [e]; exact e1)
      rw [updQ_ne c]
      refine hrest k' hk' fun j0 hj0 hc => ?_
      refine hno j0 hj0 ?_
      by_cases c : j0 = j
      · subst c; rw [updF_self]; exact hc
      · rw [updF_ne c]; exact hc
end Go.Proofs.Ytkimldeagndgjaa

/- One side of a book: what is there, in its order; the best; less of an order. -/
namespace Go.Proofs.Ytkimldeagndgjaa
set_option linter.unusedVariables false
set_option linter.unusedSimpArgs false
open Go.RowKit

theorem SideI.skipRem {w : World} {s : Int} {lp : Nat} {v : Value} {bq bn be N K : Nat} {T : List Nat} {ord : Nat → Ord} (h : SideI w s lp v bq bn be N K T ord) {i : Nat} (hs : (ord i).sd ≠ s) :
    SideI w s lp v bq bn be N K (less T i) ord := by
  obtain ⟨u, n, f, Lq, hl, hq, hlev, hhas, hrest⟩ := h.ex
  refine ⟨u, n, f, Lq, hl, hq, ?_, ?_, hrest⟩
  · intro j hj
    obtain ⟨k, h1, h2, h3, h4, h5⟩ := hlev j hj
    refine ⟨k, h1, h2, ?_, h4, h5⟩
    rw [onL_less, less_not (fun hm => hs (onL_mem.1 hm).2.1)]; exact h3
  · intro a ha hsa
    exact hhas a (less_mem.1 ha).1 hsa
theorem onL_updO {s p : Int} {T : List Nat} {ord : Nat → Ord} {i : Nat} {o : Ord} (h1 : o.sd = (ord i).sd) (h2 : o.pr = (ord i).pr) : onL s p T (updO ord i o) = onL s p T ord := by
  unfold onL
  refine List.filter_congr fun a _ => ?_
  by_cases e : a = i
  · subst e; rw [updO_same, h1, h2]
  · rw [updO_ne e]
theorem SideI.skipUpd {w : World} {s : Int} {lp : Nat} {v : Value} {bq bn be N K : Nat} {T : List Nat} {ord : Nat → Ord} (h : SideI w s lp v bq bn be N K T ord) {i : Nat} {o : Ord} (hs : (ord i).sd ≠ s) (h1 : o.sd = (ord i).sd) (h2 : o.pr = (ord i).pr) :
    SideI w s lp v bq bn be N K T (updO ord i o) := by
  obtain ⟨u, n, f, Lq, hl, hq, hlev, hhas, hrest⟩ := h.ex
  refine ⟨u, n, f, Lq, hl, hq, ?_, ?_, hrest⟩
  · intro j hj
    obtain ⟨k, a1, a2, a3, a4, a5⟩ := hlev j hj
    refine ⟨k, a1, a2, by rw [onL_updO h1 h2]; exact a3, a4, ?_⟩
    rw [a5]
    refine sumS_congr fun a ha => ?_
    have e : a ≠ i := by
      rintro rfl
      rw [a3] at ha
      exact hs (onL_mem.1 ha).2.1
    rw [updO_ne e]
  · intro a ha hsa
    by_cases e : a = i
    · subst e; rw [updO_same, h1] at hsa; exact absurd hsa hs
    · rw [updO_ne e] at hsa ⊢; exact hhas a ha hsa
theorem sumS_upd {ord : Nat → Ord} {l : List Nat} {i : Nat} {o : Ord} (hn : l.Nodup) (hi : i ∈ l) : sumS (updO ord i o) l = sumS ord l - (ord i).qt + o.qt := by
  obtain ⟨A, B, rfl⟩ := List.append_of_mem hi
  have h1 := List.nodup_append.1 hn
  have h2 := List.nodup_cons.1 h1.2.1
  have eA : sumS (updO ord i o) A = sumS ord A := sumS_congr fun a ha => by rw [updO_ne (show a ≠ i from fun e => h1.2.2 a ha i (by simp) e)]
  have eB : sumS (updO ord i o) B = sumS ord B := sumS_congr fun a ha => by rw [updO_ne (show a ≠ i from fun e => h2.1 (e ▸ ha))]
  simp only [sumS, List.map_append, List.map_cons, List.sum_append, List.sum_cons, updO_same] at eA eB ⊢
  rw [eA, eB]; omega

theorem side_less (w : World) (s : Int) (lp : Nat) (v : Value) (bq bn be N K : Nat) (T : List Nat) (ord : Nat → Ord) (h : SideI w s lp v bq bn be N K T ord) (ht : Times N T ord) (i : Nat) (hi : i ∈ T) (hs : (ord i).sd = s) (by' : Int) (hb : 1 ≤ by' ∧ by' < (ord i).qt) :
    Calls Try.prog 105 #[.pointer (some ⟨lp, 0, none⟩), .int .i64 (ord i).pr, .int .i64 by', .bool false] w fun e w' => ∃ (k : Nat), e = .returned (.tuple #[.int .i64 k, .int .i64 0]) ∧ Fr v.ownBlock.toList w w' ∧
      SideI w' s lp v bq bn be N K T (updO ord i { ord i with qt := (ord i).qt - by' }) := by
  obtain ⟨u, n, f, Lq, hl, hq, hlev, hhas, hrest⟩ := h.ex
  obtain ⟨j, hj, hjp⟩ := hhas i hi hs
  obtain ⟨k, e1, e2, e3, e4, e5⟩ := hlev j hj
  have hik : i ∈ Lq k := by rw [e3]; exact onL_mem.2 ⟨hi, hs, hjp.symm⟩
  have hnd : (Lq k).Nodup := by rw [e3]; exact ht.nd.filter _
  obtain ⟨A, B, hAB⟩ := List.append_of_mem hik
  have hsl := sumS_less (ord := ord) hnd hAB
  have hsum0 : 0 ≤ sumS ord (less (Lq k) i) := by
    have : ∀ l : List Nat, (∀ a ∈ l, a ∈ T) → 0 ≤ sumS ord l := by
      intro l
      induction l with
      | nil => intro _; simp [sumS]
      | cons a r ih =>
        intro hh
        have h1 := (ht.good a (hh a (by simp))).qt.1
        have h2 := ih fun b hb => hh b (by simp [hb])
        simp only [sumS, List.map_cons, List.sum_cons] at h2 ⊢
        omega
    refine this _ fun a ha => ?_
    exact (onL_mem.1 (e3 ▸ (less_mem.1 ha).1)).1
  have hlen := ht.onL_len s (f j).price
  have hN := ht.N2
  have hvq : ∀ g, v.ownBlock = some g → bq ≠ g ∧ bn ≠ g ∧ be ≠ g := fun g hg => by
    obtain ⟨cur, B⟩ := hl.r.r.blk hg
    exact hq.ne B (by decide) (by decide) (by decide)
  rw [← hjp]
  refine (take_less w lp s K v u n f hl j hj by' ⟨by omega, by rw [e5]; omega⟩ false (fun h => by cases h) (by rw [e4, e3]; omega)).mono ?_
  rintro e w' ⟨rfl, F, hl'⟩
  have hq' := hq.fr F (fun hm => (hvq _ (by simpa using hm)).1 rfl) (fun hm => (hvq _ (by simpa using hm)).2.1 rfl) (fun hm => (hvq _ (by simpa using hm)).2.2 rfl)
  refine ⟨k, by rw [e1], F, u, n, _, Lq, hl', hq', ?_, ?_, ?_⟩
  · intro j' hj'
    by_cases c : j' = j
    · subst c
      refine ⟨k, by rw [updF_self]; exact e1, e2, ?_, ?_, ?_⟩
      · rw [updF_self]; exact e3.trans (onL_updO (by rfl) (by rfl)).symm
      · rw [updF_self]; simpa using e4
      · rw [updF_self, sumS_upd hnd hik, ← e5]; simp; omega
    · obtain ⟨k', a1, a2, a3, a4, a5⟩ := hlev j' hj'
      refine ⟨k', by rw [updF_ne c]; exact a1, a2, ?_, ?_, ?_⟩
      · rw [updF_ne c]; exact a3.trans (onL_updO (by rfl) (by rfl)).symm
      · rw [updF_ne c]; exact a4
      · rw [updF_ne c, a5]
        refine sumS_congr fun a ha => ?_
        have e : a ≠ i := by
          rintro rfl
          rw [a3] at ha
          have hp : (f j').price = (f j).price := (onL_mem.1 ha).2.2.symm.trans hjp.symm
          rcases Nat.lt_or_gt_of_ne c with c | c
          · exact keyI_ne (hl.r.sorted j' j c hj) hp
          · exact keyI_ne (hl.r.sorted j j' c hj') hp.symm
        rw [updO_ne e]
  · intro a ha hsa
    have e : (updO ord i { ord i with qt := (ord i).qt - by' } a).sd = (ord a).sd ∧ (updO ord i { ord i with qt := (ord i).qt - by' } a).pr = (ord a).pr := by
      by_cases e : a = i
      · subst e; rw [updO_same]; exact ⟨rfl, rfl⟩
      · rw [updO_ne e]; exact ⟨rfl, rfl⟩
    rw [e.1] at hsa
    rw [e.2]
    obtain ⟨j0, hj0, hp0⟩ := hhas a ha hsa
    refine ⟨j0, hj0, ?_⟩
    by_cases c : j0 = j
    · subst c; rw [updF_self]; exact hp0
    · rw [updF_ne c]; exact hp0
  · intro k' hk' hno
    refine hrest k' hk' fun j0 hj0 hc => ?_
    refine hno j0 hj0 ?_
    by_cases c : j0 = j
    · subst c; rw [updF_self]; exact hc
    · rw [updF_ne c]; exact hc

/-- The slots of a side in its order: by price, then by time. -/
def SlotsOf (s : Int) (T : List Nat) (ord : Nat → Ord) (X : List Nat) : Prop := X.Pairwise (fun a b => keyI s (ord a).pr ≤ keyI s (ord b).pr) ∧ ∀ p, X.filter (fun a => decide ((ord a).pr = p)) = onL s p T ord
theorem flat_one {F : Nat → Int} {p : Int} {l : List Nat} : ∀ {R : List Nat}, R.Pairwise (fun a b => F a ≠ F b) → ((∃ j ∈ R, F j = p) → R.flatMap (fun j => if F j = p then l else []) = l) ∧ ((¬ ∃ j ∈ R, F j = p) → R.flatMap (fun j => if F j = p then l else []) = [])
  | [], _ => ⟨fun ⟨_, h, _⟩ => (by cases h), fun _ => rfl⟩
  | a :: r, h => by
    obtain ⟨h1, h2⟩ := List.pairwise_cons.1 h
    obtain ⟨i1, i2⟩ := flat_one (F := F) (p := p) (l := l) h2
    by_cases c : F a = p
    · have hno : ¬ ∃ j ∈ r, F j = p := fun ⟨j, hj, e⟩ => h1 j hj (c.trans e.symm)
      refine ⟨fun _ => ?_, fun hh => absurd ⟨a, by simp, c⟩ hh⟩
      rw [List.flatMap_cons, if_pos c, i2 hno, List.append_nil]
    · rw [List.flatMap_cons, if_neg c, List.nil_append]
      refine ⟨fun ⟨j, hj, e⟩ => i1 ?_, fun hh => i2 fun ⟨j, hj, e⟩ => hh ⟨j, by simp [hj], e⟩⟩
      rcases List.mem_cons.1 hj with rfl | hj
      · exact absurd e c
      · exact ⟨j, hj, e⟩
section
variable {w : World} {s : Int} {lp : Nat} {v : Value} {bq bn be N K : Nat} {T : List Nat} {ord : Nat → Ord} {u : Nat → Nat} {n : Nat} {f : Nat → Lvl} {Lq : Nat → List Nat}
theorem slots_lev (hl : LadI w lp s K v u n f) (hhas : ∀ i ∈ T, (ord i).sd = s → ∃ j, j < n ∧ (f j).price = (ord i).pr) : SlotsOf s T ord ((List.range n).flatMap fun j => onL s (f j).price T ord) := by
  have hpr : (List.range n).Pairwise (fun a b => keyI s (f a).price < keyI s (f b).price) := by
    refine List.Pairwise.imp_of_mem ?_ (List.pairwise_lt_range (n := n))
    intro a b ha hb hab
    exact hl.r.sorted a b hab (by simpa using hb)
  constructor
  · rw [List.pairwise_flatMap]
    refine ⟨fun j _ => ?_, hpr.imp fun {a b} hab x hx y hy => ?_⟩
    · refine List.Pairwise.imp_of_mem ?_ (List.pairwise_of_forall (R := fun _ _ => True) (fun _ _ => trivial))
      intro a b ha hb _
      rw [(onL_mem.1 ha).2.2, (onL_mem.1 hb).2.2]; exact Int.le_refl _
    · rw [(onL_mem.1 hx).2.2, (onL_mem.1 hy).2.2]; omega
  · intro p
    rw [List.filter_flatMap]
    have e : ∀ j, (onL s (f j).price T ord).filter (fun a => decide ((ord a).pr = p)) = if (f j).price = p then onL s p T ord else [] := by
      intro j
      by_cases c : (f j).price = p
      · rw [if_pos c, c]
        exact List.filter_eq_self.2 fun a ha => by simpa using (onL_mem.1 ha).2.2
      · rw [if_neg c, List.filter_eq_nil_iff]
        intro a ha
        simpa [(onL_mem.1 ha).2.2] using c
    simp only [e]
    obtain ⟨i1, i2⟩ := flat_one (F := fun j => (f j).price) (p := p) (l := onL s p T ord) (hpr.imp fun {a b} h => keyI_ne h)
    by_cases c : ∃ j ∈ List.range n, (f j).price = p
    · exact i1 c
    · rw [i2 c]
      symm
      rw [List.eq_nil_iff_forall_not_mem]
      intro a ha
      obtain ⟨m1, m2, m3⟩ := onL_mem.1 ha
      obtain ⟨j, hj, hjp⟩ := hhas a m1 m2
      exact c ⟨j, by simpa using hj, hjp.trans m3⟩
end
end Go.Proofs.Ytkimldeagndgjaa

/- One side of a book: its best order and its worth, walked. -/
namespace Go.Proofs.Ytkimldeagndgjaa
set_option linter.unusedVariables false
set_option linter.unusedSimpArgs false
open Go.RowKit

theorem sorted_unique {α : Type} {cls : α → Int} {s : Int} : ∀ {X Y : List α}, X.Pairwise (fun a b => keyI s (cls a) ≤ keyI s (cls b)) → Y.Pairwise (fun a b => keyI s (cls a) ≤ keyI s (cls b)) → (∀ p, X.filter (fun a => decide (cls a = p)) = Y.filter (fun a => decide (cls a = p))) → X = Y
  | [], Y, _, _, h => by
    cases Y with
    | nil => rfl
    | cons b r =>
      have := h (cls b)
      simp at this
  | a :: r, Y, hx, hy, h => by
    have haY : a ∈ Y := by
      have h1 := h (cls a)
      have h2 : a ∈ (a :: r).filter (fun x => decide (cls x = cls a)) := by simp
      rw [h1] at h2
      exact (List.mem_filter.1 h2).1
    cases Y with
    | nil => cases haY
    | cons b q =>
      have hbX : b ∈ a :: r := by
        have h1 := h (cls b)
        have h2 : b ∈ (b :: q).filter (fun x => decide (cls x = cls b)) := by simp
        rw [← h1] at h2
        exact (List.mem_filter.1 h2).1
      obtain ⟨x1, x2⟩ := List.pairwise_cons.1 hx
      obtain ⟨y1, y2⟩ := List.pairwise_cons.1 hy
      have k1 : keyI s (cls a) ≤ keyI s (cls b) := by
        rcases List.mem_cons.1 hbX with e | e
        · rw [e]; exact Int.le_refl _
        · exact x1 b e
      have k2 : keyI s (cls b) ≤ keyI s (cls a) := by
        rcases List.mem_cons.1 haY with e | e
        · rw [e]; exact Int.le_refl _
        · exact y1 a e
      have hc : cls a = cls b := keyI_inj (side := s) (by omega)
      have h1 := h (cls a)
      rw [List.filter_cons, List.filter_cons, if_pos (by simp), if_pos (by simp [hc])] at h1
      injection h1 with e1 e2
      subst e1
      refine congrArg (a :: ·) (sorted_unique x2 y2 fun p => ?_)
      by_cases c : cls a = p
      · rw [← c]; exact e2
      · have h3 := h p
        rw [List.filter_cons, List.filter_cons, if_neg (by simpa using c), if_neg (by simpa using c)] at h3
        exact h3
theorem SlotsOf.unique {s : Int} {T : List Nat} {ord : Nat → Ord} {X Y : List Nat} (h : SlotsOf s T ord X) (k : SlotsOf s T ord Y) : X = Y :=
  sorted_unique (cls := fun a => (ord a).pr) h.1 k.1 fun p => (h.2 p).trans (k.2 p).symm
theorem SlotsOf.mem {s : Int} {T : List Nat} {ord : Nat → Ord} {X : List Nat} (h : SlotsOf s T ord X) {a : Nat} : a ∈ X ↔ a ∈ T ∧ (ord a).sd = s := by
  have h1 := h.2 (ord a).pr
  constructor
  · intro ha
    have h2 : a ∈ X.filter (fun x => decide ((ord x).pr = (ord a).pr)) := List.mem_filter.2 ⟨ha, by simp⟩
    rw [h1] at h2
    exact ⟨(onL_mem.1 h2).1, (onL_mem.1 h2).2.1⟩
  · rintro ⟨h2, h3⟩
    have h4 : a ∈ onL s (ord a).pr T ord := onL_mem.2 ⟨h2, h3, rfl⟩
    rw [← h1] at h4
    exact (List.mem_filter.1 h4).1
theorem SlotsOf.nodup {s : Int} {T : List Nat} {ord : Nat → Ord} {X : List Nat} (h : SlotsOf s T ord X) (hT : T.Nodup) : X.Nodup := by
  rw [List.nodup_iff_count]
  intro a
  have h1 := h.2 (ord a).pr
  have h2 : X.count a = (X.filter (fun x => decide ((ord x).pr = (ord a).pr))).count a := by rw [List.count_filter (by simp)]
  rw [h2, h1]
  exact List.nodup_iff_count.1 (hT.filter _) a

section
variable (w : World) (s : Int) (lp : Nat) (v : Value) (bq bn be N K : Nat) (T : List Nat) (ord : Nat → Ord)
theorem side_best_no (h : SideI w s lp v bq bn be N K T ord) (hX : SlotsOf s T ord []) :
    Calls Try.prog 93 #[.pointer (some ⟨lp, 0, none⟩)] w fun e w' => e = .returned (.tuple #[lvV ⟨0, 0, 0, 0⟩, .bool false]) ∧ Fr [] w w' := by
  obtain ⟨u, n, f, Lq, hl, hq, hlev, hhas, hrest⟩ := h.ex
  have hn : n = 0 := by
    rcases Nat.eq_zero_or_pos n with e | e
    · exact e
    · exfalso
      obtain ⟨k, h1, h2, h3, h4, h5⟩ := hlev 0 e
      have h6 := hl.ord 0 e
      have h7 : Lq k = [] := by rw [h3, ← hX.2]; rfl
      rw [h7] at h4; simp at h4; omega
  subst hn
  refine best_no w _ fun w' F => ?_
  exact ladLen_any w' lp s K v u 0 f (hl.r.fr F (by simp) (by simp))
theorem side_best (h : SideI w s lp v bq bn be N K T ord) (i : Nat) (r : List Nat) (hX : SlotsOf s T ord (i :: r)) :
    Calls Try.prog 93 #[.pointer (some ⟨lp, 0, none⟩)] w fun e w' => ∃ (x : Lvl) (k : Nat), e = .returned (.tuple #[lvV x, .bool true]) ∧ Fr [] w w' ∧ x.price = (ord i).pr ∧ x.queue = k ∧ k < K ∧
      ∀ W, Fr [] w W → Calls Try.prog 94 #[.pointer (some ⟨bq, 0, none⟩), .int .i64 k] W fun e W' => e = .returned (.tuple #[.int .i64 i, .bool true]) ∧ Fr [] W W' := by
  obtain ⟨u, n, f, Lq, hl, hq, hlev, hhas, hrest⟩ := h.ex
  have hU := (slots_lev hl hhas).unique hX
  have hn : 0 < n := by
    rcases Nat.eq_zero_or_pos n with e | e
    · subst e; simp at hU
    · exact e
  obtain ⟨k, h1, h2, h3, h4, h5⟩ := hlev 0 hn
  have h6 := hl.ord 0 hn
  obtain ⟨a, q, hL⟩ : ∃ a q, Lq k = a :: q := by
    cases hh : Lq k with
    | nil => rw [hh] at h4; simp at h4; omega
    | cons a q => exact ⟨a, q, rfl⟩
  obtain ⟨n', rfl⟩ : ∃ n', n = n' + 1 := ⟨n - 1, by omega⟩
  rw [List.range_succ_eq_map, List.flatMap_cons, ← h3, hL] at hU
  simp only [List.cons_append] at hU
  injection hU with e1 e2
  subst e1
  have hp : (f 0).price = (ord a).pr := by
    have : a ∈ Lq k := by rw [hL]; simp
    rw [h3] at this
    exact (onL_mem.1 this).2.2.symm
  refine (best_yes w lp s K v u (n' + 1) f hl.r hn).mono ?_
  rintro e w' ⟨rfl, F⟩
  exact ⟨f 0, k, rfl, F, hp, h1, h2, fun W FW => front_yes (hq.fr FW (by simp) (by simp) (by simp)) k a q h2 hL⟩

theorem worth_lev {s lim : Int} {f : Nat → Lvl} {T : List Nat} {ord : Nat → Ord} : ∀ (R : List Nat) (acc : Int), R.Pairwise (fun a b => keyI s (f a).price < keyI s (f b).price) → (∀ j ∈ R, (f j).qty = sumS ord (onL s (f j).price T ord)) →
    (∀ l : List Nat, (∀ a ∈ l, a ∈ T) → 0 ≤ sumS ord l) → 0 ≤ acc → acc + sumS ord (R.flatMap fun j => onL s (f j).price T ord) ≤ 4611686018427387904 →
    worthL s lim (R.map f) acc = acc + sumS ord ((R.flatMap fun j => onL s (f j).price T ord).filter fun a => decide (¬ keyI s lim < keyI s (ord a).pr))
  | [], acc, _, _, _, _, _ => by simp [worthL, sumS]
  | j :: R, acc, hp, hq, h0, ha, hb => by
    obtain ⟨p1, p2⟩ := List.pairwise_cons.1 hp
    have hsub : ∀ (R : List Nat) (a : Nat), a ∈ (R.flatMap fun j => onL s (f j).price T ord) → a ∈ T := by
      intro R a ha
      obtain ⟨j, _, hj⟩ := List.mem_flatMap.1 ha
      exact (onL_mem.1 hj).1
    have e0 : sumS ord ((j :: R).flatMap fun j => onL s (f j).price T ord) = sumS ord (onL s (f j).price T ord) + sumS ord (R.flatMap fun j => onL s (f j).price T ord) := by
      rw [List.flatMap_cons]; simp [sumS]
    have hR := h0 (R.flatMap fun j => onL s (f j).price T ord) (hsub R)
    have hj0 := h0 (onL s (f j).price T ord) fun a ha => (onL_mem.1 ha).1
    rw [e0] at hb
    simp only [List.map_cons, worthL, List.flatMap_cons, List.filter_append]
    by_cases c : keyI s lim < keyI s (f j).price
    · rw [if_pos c]
      have e1 : (onL s (f j).price T ord).filter (fun a => decide (¬ keyI s lim < keyI s (ord a).pr)) = [] := by
        rw [List.filter_eq_nil_iff]
        intro a ha
        rw [(onL_mem.1 ha).2.2]; simpa using c
      have e2 : (R.flatMap fun j => onL s (f j).price T ord).filter (fun a => decide (¬ keyI s lim < keyI s (ord a).pr)) = [] := by
        rw [List.filter_eq_nil_iff]
        intro a ha
        obtain ⟨j', h1, h2⟩ := List.mem_flatMap.1 ha
        have := p1 j' h1
        rw [(onL_mem.1 h2).2.2]; simp; omega
      rw [e1, e2]; simp [sumS]
    · rw [if_neg c, if_neg (by rw [hq j (by simp)]; omega), worth_lev R _ p2 (fun a ha => hq a (by simp [ha])) h0 (by rw [hq j (by simp)]; omega) (by rw [hq j (by simp)]; omega)]
      have e1 : (onL s (f j).price T ord).filter (fun a => decide (¬ keyI s lim < keyI s (ord a).pr)) = onL s (f j).price T ord := by
        rw [List.filter_eq_self]
        intro a ha
        rw [(onL_mem.1 ha).2.2]; simpa using c
      rw [e1, hq j (by simp)]
      simp [sumS]; omega
theorem Times.sum0 {N : Nat} {T : List Nat} {ord : Nat → Ord} (ht : Times N T ord) : ∀ l : List Nat, (∀ a ∈ l, a ∈ T) → 0 ≤ sumS ord l := by
  intro l
  induction l with
  | nil => intro _; simp [sumS]
  | cons a r ih =>
    intro hh
    have h1 := (ht.good a (hh a (by simp))).qt.1
    have h2 := ih fun b hb => hh b (by simp [hb])
    simp only [sumS, List.map_cons, List.sum_cons] at h2 ⊢
    omega
theorem side_worth (h : SideI w s lp v bq bn be N K T ord) (ht : Times N T ord) (X : List Nat) (hX : SlotsOf s T ord X) (lim : Int) (hl : In63 lim) :
    Calls Try.prog 108 #[.pointer (some ⟨lp, 0, none⟩), .int .i64 lim] w fun e w' => e = .returned (.int .i64 (sumS ord (X.filter fun a => decide (¬ keyI s lim < keyI s (ord a).pr)))) ∧ Fr [] w w' := by
  obtain ⟨u, n, f, Lq, hl', hq, hlev, hhas, hrest⟩ := h.ex
  have hU := (slots_lev hl' hhas).unique hX
  have hpr : (List.range n).Pairwise (fun a b => keyI s (f a).price < keyI s (f b).price) := by
    refine List.Pairwise.imp_of_mem ?_ (List.pairwise_lt_range (n := n))
    intro a b ha hb hab
    exact hl'.r.sorted a b hab (by simpa using hb)
  have hlen : X.length ≤ 500 := by
    have h1 := List.Nodup.length_le_of_subset (hX.nodup ht.nd) (l₂ := T) fun a ha => (hX.mem.1 ha).1
    have h2 := ht.len
    have h3 := ht.N2
    omega
  have hsum : sumS ord X ≤ 2147483648000 := by
    have h1 := sumS_le (l := X) (ord := ord) (m := 4294967296) fun i hi => (ht.good i (hX.mem.1 hi).1).qt.2
    have h4 : (X.length : Int) ≤ 500 := by omega
    omega
  have hw := worth_lev (s := s) (lim := lim) (f := f) (T := T) (ord := ord) (List.range n) 0 hpr (fun j hj => by
    obtain ⟨k, _, _, h3, _, h5⟩ := hlev j (by simpa using hj)
    rw [h5, h3]) ht.sum0 (by omega) (by rw [hU]; omega)
  rw [hU, Int.zero_add] at hw
  rw [← hw]
  exact worth_any w lp s K v u n f hl' lim hl
end
end Go.Proofs.Ytkimldeagndgjaa
