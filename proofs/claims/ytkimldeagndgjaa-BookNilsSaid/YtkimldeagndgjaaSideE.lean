/- One side of a book: its best order and its worth, walked. -/
import Derived.Test.YtkimldeagndgjaaSideD
import Derived.Test.YtkimldeagndgjaaLadK
namespace Go.Proofs.Ytkimldeagndgjaa
set_option linter.unusedVariables false
set_option linter.unusedSimpArgs false
open Go.RowKit

theorem sorted_unique {α : Type} {cls : α → Int} {s : Int} : ∀ {X Y : List α}, X.Pairwise (fun a b => keyI s (cls a) ≤ keyI s (cls b)) → Y.Pairwise (fun a b => keyI s (cls a) ≤ keyI s (cls b)) → (∀ p, X.filter (fun a => decide (cls a = p)) = Y.filter (fun a => decide (cls a = p))) → X = Y
  | [], Y, _, _, h => by
    cases Y with
    | nil => rfl
    | cons b r =>
      have := h (cls b)
      simp at this
  | a :: r, Y, hx, hy, h => by
    have haY : a ∈ Y := by
      have h1 := h (cls a)
      have h2 : a ∈ (a :: r).filter (fun x => decide (cls x = cls a)) := by simp
      rw [h1] at h2
      exact (List.mem_filter.1 h2).1
    cases Y with
    | nil => cases haY
    | cons b q =>
      have hbX : b ∈ a :: r := by
        have h1 := h (cls b)
        have h2 : b ∈ (b :: q).filter (fun x => decide (cls x = cls b)) := by simp
        rw [← h1] at h2
        exact (List.mem_filter.1 h2).1
      obtain ⟨x1, x2⟩ := List.pairwise_cons.1 hx
      obtain ⟨y1, y2⟩ := List.pairwise_cons.1 hy
      have k1 : keyI s (cls a) ≤ keyI s (cls b) := by
        rcases List.mem_cons.1 hbX with e | e
        · rw [e]; exact Int.le_refl _
        · exact x1 b e
      have k2 : keyI s (cls b) ≤ keyI s (cls a) := by
        rcases List.mem_cons.1 haY with e | e
        · rw [e]; exact Int.le_refl _
        · exact y1 a e
      have hc : cls a = cls b := keyI_inj (side := s) (by omega)
      have h1 := h (cls a)
      rw [List.filter_cons, List.filter_cons, if_pos (by simp), if_pos (by simp [hc])] at h1
      injection h1 with e1 e2
      subst e1
      refine congrArg (a :: ·) (sorted_unique x2 y2 fun p => ?_)
      by_cases c : cls a = p
      · rw [← c]; exact e2
      · have h3 := h p
        rw [List.filter_cons, List.filter_cons, if_neg (by simpa using c), if_neg (by simpa using c)] at h3
        exact h3
theorem SlotsOf.unique {s : Int} {T : List Nat} {ord : Nat → Ord} {X Y : List Nat} (h : SlotsOf s T ord X) (k : SlotsOf s T ord Y) : X = Y :=
  sorted_unique (cls := fun a => (ord a).pr) h.1 k.1 fun p => (h.2 p).trans (k.2 p).symm
theorem SlotsOf.mem {s : Int} {T : List Nat} {ord : Nat → Ord} {X : List Nat} (h : SlotsOf s T ord X) {a : Nat} : a ∈ X ↔ a ∈ T ∧ (ord a).sd = s := by
  have h1 := h.2 (ord a).pr
  constructor
  · intro ha
    have h2 : a ∈ X.filter (fun x => decide ((ord x).pr = (ord a).pr)) := List.mem_filter.2 ⟨ha, by simp⟩
    rw [h1] at h2
    exact ⟨(onL_mem.1 h2).1, (onL_mem.1 h2).2.1⟩
  · rintro ⟨h2, h3⟩
    have h4 : a ∈ onL s (ord a).pr T ord := onL_mem.2 ⟨h2, h3, rfl⟩
    rw [← h1] at h4
    exact (List.mem_filter.1 h4).1
theorem SlotsOf.nodup {s : Int} {T : List Nat} {ord : Nat → Ord} {X : List Nat} (h : SlotsOf s T ord X) (hT : T.Nodup) : X.Nodup := by
  rw [List.nodup_iff_count]
  intro a
  have h1 := h.2 (ord a).pr
  have h2 : X.count a = (X.filter (fun x => decide ((ord x).pr = (ord a).pr))).count a := by rw [List.count_filter (by simp)]
  rw [h2, h1]
  exact List.nodup_iff_count.1 (hT.filter _) a

section
variable (w : World) (s : Int) (lp : Nat) (v : Value) (bq bn be N K : Nat) (T : List Nat) (ord : Nat → Ord)
theorem side_best_no (h : SideI w s lp v bq bn be N K T ord) (hX : SlotsOf s T ord []) :
    Calls Try.prog 93 #[.pointer (some ⟨lp, 0, none⟩)] w fun e w' => e = .returned (.tuple #[lvV ⟨0, 0, 0, 0⟩, .bool false]) ∧ Fr [] w w' := by
  obtain ⟨u, n, f, Lq, hl, hq, hlev, hhas, hrest⟩ := h.ex
  have hn : n = 0 := by
    rcases Nat.eq_zero_or_pos n with e | e
    · exact e
    · exfalso
      obtain ⟨k, h1, h2, h3, h4, h5⟩ := hlev 0 e
      have h6 := hl.ord 0 e
      have h7 : Lq k = [] := by rw [h3, ← hX.2]; rfl
      rw [h7] at h4; simp at h4; omega
  subst hn
  refine best_no w _ fun w' F => ?_
  exact ladLen_any w' lp s K v u 0 f (hl.r.fr F (by simp) (by simp))
theorem side_best (h : SideI w s lp v bq bn be N K T ord) (i : Nat) (r : List Nat) (hX : SlotsOf s T ord (i :: r)) :
    Calls Try.prog 93 #[.pointer (some ⟨lp, 0, none⟩)] w fun e w' => ∃ (x : Lvl) (k : Nat), e = .returned (.tuple #[lvV x, .bool true]) ∧ Fr [] w w' ∧ x.price = (ord i).pr ∧ x.queue = k ∧ k < K ∧
      ∀ W, Fr [] w W → Calls Try.prog 94 #[.pointer (some ⟨bq, 0, none⟩), .int .i64 k] W fun e W' => e = .returned (.tuple #[.int .i64 i, .bool true]) ∧ Fr [] W W' := by
  obtain ⟨u, n, f, Lq, hl, hq, hlev, hhas, hrest⟩ := h.ex
  have hU := (slots_lev hl hhas).unique hX
  have hn : 0 < n := by
    rcases Nat.eq_zero_or_pos n with e | e
    · subst e; simp at hU
    · exact e
  obtain ⟨k, h1, h2, h3, h4, h5⟩ := hlev 0 hn
  have h6 := hl.ord 0 hn
  obtain ⟨a, q, hL⟩ : ∃ a q, Lq k = a :: q := by
    cases hh : Lq k with
    | nil => rw [hh] at h4; simp at h4; omega
    | cons a q => exact ⟨a, q, rfl⟩
  obtain ⟨n', rfl⟩ : ∃ n', n = n' + 1 := ⟨n - 1, by omega⟩
  rw [List.range_succ_eq_map, List.flatMap_cons, ← h3, hL] at hU
  simp only [List.cons_append] at hU
  injection hU with e1 e2
  subst e1
  have hp : (f 0).price = (ord a).pr := by
    have : a ∈ Lq k := by rw [hL]; simp
    rw [h3] at this
    exact (onL_mem.1 this).2.2.symm
  refine (best_yes w lp s K v u (n' + 1) f hl.r hn).mono ?_
  rintro e w' ⟨rfl, F⟩
  exact ⟨f 0, k, rfl, F, hp, h1, h2, fun W FW => front_yes (hq.fr FW (by simp) (by simp) (by simp)) k a q h2 hL⟩

theorem worth_lev {s lim : Int} {f : Nat → Lvl} {T : List Nat} {ord : Nat → Ord} : ∀ (R : List Nat) (acc : Int), R.Pairwise (fun a b => keyI s (f a).price < keyI s (f b).price) → (∀ j ∈ R, (f j).qty = sumS ord (onL s (f j).price T ord)) →
    (∀ l : List Nat, (∀ a ∈ l, a ∈ T) → 0 ≤ sumS ord l) → 0 ≤ acc → acc + sumS ord (R.flatMap fun j => onL s (f j).price T ord) ≤ 4611686018427387904 →
    worthL s lim (R.map f) acc = acc + sumS ord ((R.flatMap fun j => onL s (f j).price T ord).filter fun a => decide (¬ keyI s lim < keyI s (ord a).pr))
  | [], acc, _, _, _, _, _ => by simp [worthL, sumS]
  | j :: R, acc, hp, hq, h0, ha, hb => by
    obtain ⟨p1, p2⟩ := List.pairwise_cons.1 hp
    have hsub : ∀ (R : List Nat) (a : Nat), a ∈ (R.flatMap fun j => onL s (f j).price T ord) → a ∈ T := by
      intro R a ha
      obtain ⟨j, _, hj⟩ := List.mem_flatMap.1 ha
      exact (onL_mem.1 hj).1
    have e0 : sumS ord ((j :: R).flatMap fun j => onL s (f j).price T ord) = sumS ord (onL s (f j).price T ord) + sumS ord (R.flatMap fun j => onL s (f j).price T ord) := by
      rw [List.flatMap_cons]; simp [sumS]
    have hR := h0 (R.flatMap fun j => onL s (f j).price T ord) (hsub R)
    have hj0 := h0 (onL s (f j).price T ord) fun a ha => (onL_mem.1 ha).1
    rw [e0] at hb
    simp only [List.map_cons, worthL, List.flatMap_cons, List.filter_append]
    by_cases c : keyI s lim < keyI s (f j).price
    · rw [if_pos c]
      have e1 : (onL s (f j).price T ord).filter (fun a => decide (¬ keyI s lim < keyI s (ord a).pr)) = [] := by
        rw [List.filter_eq_nil_iff]
        intro a ha
        rw [(onL_mem.1 ha).2.2]; simpa using c
      have e2 : (R.flatMap fun j => onL s (f j).price T ord).filter (fun a => decide (¬ keyI s lim < keyI s (ord a).pr)) = [] := by
        rw [List.filter_eq_nil_iff]
        intro a ha
        obtain ⟨j', h1, h2⟩ := List.mem_flatMap.1 ha
        have := p1 j' h1
        rw [(onL_mem.1 h2).2.2]; simp; omega
      rw [e1, e2]; simp [sumS]
    · rw [if_neg c, if_neg (by rw [hq j (by simp)]; omega), worth_lev R _ p2 (fun a ha => hq a (by simp [ha])) h0 (by rw [hq j (by simp)]; omega) (by rw [hq j (by simp)]; omega)]
      have e1 : (onL s (f j).price T ord).filter (fun a => decide (¬ keyI s lim < keyI s (ord a).pr)) = onL s (f j).price T ord := by
        rw [List.filter_eq_self]
        intro a ha
        rw [(onL_mem.1 ha).2.2]; simpa using c
      rw [e1, hq j (by simp)]
      simp [sumS]; omega
theorem Times.sum0 {N : Nat} {T : List Nat} {ord : Nat → Ord} (ht : Times N T ord) : ∀ l : List Nat, (∀ a ∈ l, a ∈ T) → 0 ≤ sumS ord l := by
  intro l
  induction l with
  | nil => intro _; simp [sumS]
  | cons a r ih =>
    intro hh
    have h1 := (ht.good a (hh a (by simp))).qt.1
    have h2 := ih fun b hb => hh b (by simp [hb])
    simp only [sumS, List.map_cons, List.sum_cons] at h2 ⊢
    omega
theorem side_worth (h : SideI w s lp v bq bn be N K T ord) (ht : Times N T ord) (X : List Nat) (hX : SlotsOf s T ord X) (lim : Int) (hl : In63 lim) :
    Calls Try.prog 108 #[.pointer (some ⟨lp, 0, none⟩), .int .i64 lim] w fun e w' => e = .returned (.int .i64 (sumS ord (X.filter fun a => decide (¬ keyI s lim < keyI s (ord a).pr)))) ∧ Fr [] w w' := by
  obtain ⟨u, n, f, Lq, hl', hq, hlev, hhas, hrest⟩ := h.ex
  have hU := (slots_lev hl' hhas).unique hX
  have hpr : (List.range n).Pairwise (fun a b => keyI s (f a).price < keyI s (f b).price) := by
    refine List.Pairwise.imp_of_mem ?_ (List.pairwise_lt_range (n := n))
    intro a b ha hb hab
    exact hl'.r.sorted a b hab (by simpa using hb)
  have hlen : X.length ≤ 500 := by
    have h1 := List.Nodup.length_le_of_subset (hX.nodup ht.nd) (l₂ := T) fun a ha => (hX.mem.1 ha).1
    have h2 := ht.len
    have h3 := ht.N2
    omega
  have hsum : sumS ord X ≤ 2147483648000 := by
    have h1 := sumS_le (l := X) (ord := ord) (m := 4294967296) fun i hi => (ht.good i (hX.mem.1 hi).1).qt.2
    have h4 : (X.length : Int) ≤ 500 := by omega
    omega
  have hw := worth_lev (s := s) (lim := lim) (f := f) (T := T) (ord := ord) (List.range n) 0 hpr (fun j hj => by
    obtain ⟨k, _, _, h3, _, h5⟩ := hlev j (by simpa using hj)
    rw [h5, h3]) ht.sum0 (by omega) (by rw [hU]; omega)
  rw [hU, Int.zero_add] at hw
  rw [← hw]
  exact worth_any w lp s K v u n f hl' lim hl
end
end Go.Proofs.Ytkimldeagndgjaa
