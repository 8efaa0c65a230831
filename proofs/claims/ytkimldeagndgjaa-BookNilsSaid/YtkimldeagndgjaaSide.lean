/- One side of a book: its levels and their queues, over the slots in the order of time. -/
import Derived.Test.YtkimldeagndgjaaFifoE
import Derived.Test.YtkimldeagndgjaaLadI
import Derived.Test.YtkimldeagndgjaaArB
namespace Go.Proofs.Ytkimldeagndgjaa
set_option linter.unusedVariables false
set_option linter.unusedSimpArgs false
open Go.RowKit

/-- The slots of one side at one price, in the order of time. -/
def onL (s p : Int) (T : List Nat) (ord : Nat → Ord) : List Nat := T.filter fun i => decide ((ord i).sd = s ∧ (ord i).pr = p)
def sumS (ord : Nat → Ord) (l : List Nat) : Int := (l.map fun i => (ord i).qt).sum
theorem onL_snoc {s p : Int} {T : List Nat} {ord : Nat → Ord} {i : Nat} {o : Ord} (hi : i ∉ T) : onL s p (T ++ [i]) (updO ord i o) = onL s p T ord ++ (if o.sd = s ∧ o.pr = p then [i] else []) := by
  unfold onL
  rw [List.filter_append]
  congr 1
  · refine List.filter_congr fun j hj => ?_
    rw [updO_ne (show j ≠ i from fun e => hi (e ▸ hj))]
  · by_cases c : o.sd = s ∧ o.pr = p
    · simp [updO_same, c]
    · simp [updO_same, c]
theorem sumS_congr {ord ord' : Nat → Ord} {l : List Nat} (h : ∀ i ∈ l, (ord i).qt = (ord' i).qt) : sumS ord l = sumS ord' l := by
  unfold sumS; rw [List.map_congr_left h]
theorem sumS_snoc (ord : Nat → Ord) (l : List Nat) (i : Nat) : sumS ord (l ++ [i]) = sumS ord l + (ord i).qt := by simp [sumS]
theorem sumS_le {ord : Nat → Ord} {l : List Nat} {m : Int} (h : ∀ i ∈ l, (ord i).qt ≤ m) : sumS ord l ≤ l.length * m := by
  induction l with
  | nil => simp [sumS]
  | cons a r ih =>
    have h1 := h a (by simp)
    have h2 := ih fun i hi => h i (by simp [hi])
    simp only [sumS, List.map_cons, List.sum_cons, List.length_cons] at h2 ⊢
    have e : ((r.length + 1 : Nat) : Int) * m = r.length * m + m := by rw [Int.natCast_add, Int.add_mul]; simp
    rw [e]; omega

/-- An order that a book takes. -/
structure Good (o : Ord) : Prop where
  sd : o.sd = 0 ∨ o.sd = 1
  pr : 1 ≤ o.pr ∧ o.pr ≤ 1099511627776
  qt : 1 ≤ o.qt ∧ o.qt ≤ 4294967296
/-- The slots that are taken, in the order of time. -/
structure Times (N : Nat) (T : List Nat) (ord : Nat → Ord) : Prop where
  nd : T.Nodup
  lt : ∀ i ∈ T, i < N
  good : ∀ i ∈ T, Good (ord i)
  N2 : N ≤ 500
theorem Times.len {N : Nat} {T : List Nat} {ord : Nat → Ord} (h : Times N T ord) : T.length ≤ N := by
  have := List.Nodup.length_le_of_subset h.nd (l₂ := List.range N) (fun i hi => by simpa using h.lt i hi)
  simpa using this
theorem Times.onL_len {N : Nat} {T : List Nat} {ord : Nat → Ord} (h : Times N T ord) (s p : Int) : (onL s p T ord).length ≤ N := Nat.le_trans (List.length_filter_le _ _) h.len
theorem Times.sum {N : Nat} {T : List Nat} {ord : Nat → Ord} (h : Times N T ord) (s p : Int) : sumS ord (onL s p T ord) ≤ 2147483648000 := by
  have h1 := sumS_le (l := onL s p T ord) (ord := ord) (m := 4294967296) fun i hi => (h.good i (List.mem_filter.1 hi).1).qt.2
  have h2 := h.onL_len s p
  have h3 := h.N2
  have h4 : ((onL s p T ord).length : Int) ≤ 500 := by omega
  omega

structure SideI (w : World) (s : Int) (lp : Nat) (v : Value) (bq bn be N K : Nat) (T : List Nat) (ord : Nat → Ord) : Prop where
  ex : ∃ u n f Lq, LadI w lp s K v u n f ∧ AbsQ w bq bn be N K Lq ∧
    (∀ j, j < n → ∃ k : Nat, (f j).queue = k ∧ k < K ∧ Lq k = onL s (f j).price T ord ∧ (f j).orders = (Lq k).length ∧ (f j).qty = sumS ord (Lq k)) ∧
    (∀ i ∈ T, (ord i).sd = s → ∃ j, j < n ∧ (f j).price = (ord i).pr) ∧
    (∀ k, k < K → (∀ j, j < n → (f j).queue ≠ k) → Lq k = [])

theorem RowL.blk {w : World} {v : Value} {n : Nat} {f : Nat → Lvl} (h : RowL w v n f) {g : Nat} (hg : v.ownBlock = some g) : ∃ cur, Blk w g 159 cur := by
  rcases h with h | ⟨lb, cap, cur, rfl, h1, B, h2, h3⟩
  · obtain ⟨rfl, rfl⟩ := h
    simp [Value.ownBlock] at hg
  · simp [Value.ownBlock] at hg
    subst hg
    exact ⟨_, B⟩
theorem AbsQ.ne {w : World} {bq bn be N K : Nat} {L : Nat → List Nat} (h : AbsQ w bq bn be N K L) {g : Nat} {t : TypeId} {cs : Array Value} (B : Blk w g t cs) (h1 : t ≠ 208) (h2 : t ≠ 210) (h3 : t ≠ 213) : bq ≠ g ∧ bn ≠ g ∧ be ≠ g := by
  obtain ⟨nd, en, r, _⟩ := h
  exact ⟨r.q.ne B (Ne.symm h1), r.n.ne B (Ne.symm h2), r.e.ne B (Ne.symm h3)⟩

/-- May a price be on a side? -/
def FitsL (s p : Int) (L : List Ord) (K : Nat) : Prop := (∃ x ∈ L, x.sd = s ∧ x.pr = p) ∨ ∃ P : List Int, P.Nodup ∧ (∀ q, q ∈ P ↔ ∃ x ∈ L, x.sd = s ∧ x.pr = q) ∧ P.length < K

theorem keyI_ne {s a b : Int} (h : keyI s a < keyI s b) : a ≠ b := fun e => by rw [e] at h; omega
section
variable {w : World} {s : Int} {lp : Nat} {v : Value} {bq bn be N K : Nat} {T : List Nat} {ord : Nat → Ord} {u : Nat → Nat} {n : Nat} {f : Nat → Lvl} {Lq : Nat → List Nat}
theorem lev_iff (hl : LadI w lp s K v u n f)
    (hlev : ∀ j, j < n → ∃ k : Nat, (f j).queue = k ∧ k < K ∧ Lq k = onL s (f j).price T ord ∧ (f j).orders = (Lq k).length ∧ (f j).qty = sumS ord (Lq k))
    (hhas : ∀ i ∈ T, (ord i).sd = s → ∃ j, j < n ∧ (f j).price = (ord i).pr) (p : Int) : (∃ j, j < n ∧ (f j).price = p) ↔ ∃ x ∈ T.map ord, x.sd = s ∧ x.pr = p := by
  constructor
  · rintro ⟨j, hj, rfl⟩
    obtain ⟨k, _, _, h1, h2, _⟩ := hlev j hj
    have h3 := hl.ord j hj
    have h4 : Lq k ≠ [] := fun e => by rw [e] at h2; simp at h2; omega
    obtain ⟨i, hi⟩ := List.exists_mem_of_ne_nil _ h4
    rw [h1] at hi
    obtain ⟨h5, h6⟩ := List.mem_filter.1 hi
    have h7 := of_decide_eq_true h6
    exact ⟨ord i, List.mem_map.2 ⟨i, h5, rfl⟩, h7⟩
  · rintro ⟨x, hx, h1, rfl⟩
    obtain ⟨i, hi, rfl⟩ := List.mem_map.1 hx
    exact hhas i hi h1
theorem fits_iff (hl : LadI w lp s K v u n f)
    (hlev : ∀ j, j < n → ∃ k : Nat, (f j).queue = k ∧ k < K ∧ Lq k = onL s (f j).price T ord ∧ (f j).orders = (Lq k).length ∧ (f j).qty = sumS ord (Lq k))
    (hhas : ∀ i ∈ T, (ord i).sd = s → ∃ j, j < n ∧ (f j).price = (ord i).pr) (p : Int) : ((∃ j, j < n ∧ (f j).price = p) ∨ (n : Int) < K) ↔ FitsL s p (T.map ord) K := by
  unfold FitsL
  have hiff := lev_iff hl hlev hhas
  have hnd : ((List.range n).map fun j => (f j).price).Nodup := by
    unfold List.Nodup
    rw [List.pairwise_map]
    refine List.Pairwise.imp_of_mem ?_ (List.pairwise_lt_range (n := n))
    intro a b ha hb hab
    exact keyI_ne (hl.r.sorted a b hab (by simpa using hb))
  have hmem : ∀ q, q ∈ ((List.range n).map fun j => (f j).price) ↔ ∃ x ∈ T.map ord, x.sd = s ∧ x.pr = q := by
    intro q
    rw [← hiff q]
    simp
  constructor
  · rintro (h | h)
    · exact .inl ((hiff p).1 h)
    · exact .inr ⟨_, hnd, hmem, by simp; omega⟩
  · rintro (h | ⟨P, h1, h2, h3⟩)
    · exact .inl ((hiff p).2 h)
    · right
      have hp : P.Perm ((List.range n).map fun j => (f j).price) := (List.perm_ext_iff_of_nodup h1 hnd).2 fun q => by rw [h2 q, hmem q]
      have := hp.length_eq
      simp at this
      omega
end
theorem side_fits (w : World) (s : Int) (lp : Nat) (v : Value) (bq bn be N K : Nat) (T : List Nat) (ord : Nat → Ord) (h : SideI w s lp v bq bn be N K T ord) (p : Int) (hp : In63 p) (b : Bool) (hb : b = true ↔ FitsL s p (T.map ord) K) :
    Calls Try.prog 110 #[.pointer (some ⟨lp, 0, none⟩), .int .i64 p] w fun e w' => e = .returned (.bool b) ∧ Fr [] w w' := by
  obtain ⟨u, n, f, Lq, hl, hq, hlev, hhas, hrest⟩ := h.ex
  exact fits_any w lp s K v u n f hl.r p hp b ((fits_iff hl hlev hhas p).trans hb.symm)

/-- .. with a level's order counted whose slot is not in its queue yet. -/
def Half (w : World) (s : Int) (lp : Nat) (v : Value) (bq bn be N K k i : Nat) (T : List Nat) (ord : Nat → Ord) : Prop :=
  ∃ Lq, AbsQ w bq bn be N K Lq ∧ k < K ∧ (∀ j, j < K → i ∉ Lq j) ∧ ∀ w', Fr [bn, be] w w' → AbsQ w' bq bn be N K (updQ Lq k (Lq k ++ [i])) → SideI w' s lp v bq bn be N K T ord
end Go.Proofs.Ytkimldeagndgjaa
