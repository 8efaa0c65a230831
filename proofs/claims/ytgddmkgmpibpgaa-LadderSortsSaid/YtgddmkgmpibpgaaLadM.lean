/- The ladder: a ladder that is filled with prices, and emptied (for the law LadderSorts). -/
import Derived.Test.YtgddmkgmpibpgaaLadL
namespace Go.Proofs.Ytgddmkgmpibpgaa
set_option linter.unusedVariables false
set_option linter.unusedSimpArgs false
open Go.RowKit Go.Shelf

/-- How many of the first k prices are x. -/
def cntP (P : Nat → Int) : Nat → Int → Nat
  | 0, _ => 0
  | k + 1, x => cntP P k x + if P k = x then 1 else 0
theorem cntP_le (P : Nat → Int) (k : Nat) (x : Int) : cntP P k x ≤ k := by
  induction k with
  | zero => simp [cntP]
  | succ k ih => unfold cntP; split <;> omega
theorem cntP_none {P : Nat → Int} {k : Nat} {x : Int} (h : ∀ i, i < k → P i ≠ x) : cntP P k x = 0 := by
  induction k with
  | zero => rfl
  | succ k ih => unfold cntP; rw [if_neg (h k (by omega)), ih (fun i hi => h i (by omega))]
def sumN (g : Nat → Nat) : Nat → Nat
  | 0 => 0
  | n + 1 => sumN g n + g n
theorem sumN_add (g g' : Nat → Nat) (n : Nat) : sumN (fun j => g j + g' j) n = sumN g n + sumN g' n := by
  induction n with
  | zero => rfl
  | succ n ih => simp only [sumN, ih]; omega
theorem sumN_congr {g g' : Nat → Nat} {n : Nat} (h : ∀ j, j < n → g j = g' j) : sumN g n = sumN g' n := by
  induction n with
  | zero => rfl
  | succ n ih => simp only [sumN, ih (fun j hj => h j (by omega)), h n (by omega)]
theorem sumN_zero {g : Nat → Nat} {n : Nat} (h : ∀ j, j < n → g j = 0) : sumN g n = 0 := by
  induction n with
  | zero => rfl
  | succ n ih => simp only [sumN, ih (fun j hj => h j (by omega)), h n (by omega)]
theorem sumN_one {f : Nat → Int} {n : Nat} {a : Int} (hi : ∀ i j, i < n → j < n → f i = f j → i = j) (j : Nat) (hj : j < n) (e : f j = a) : sumN (fun j => if a = f j then 1 else 0) n = 1 := by
  induction n with
  | zero => omega
  | succ n ih =>
    simp only [sumN]
    by_cases c : j = n
    · subst c
      rw [if_pos e.symm, sumN_zero (fun i hi' => by rw [if_neg (fun h => by have := hi i j (by omega) hj (by rw [e, h]); omega)])]
    · rw [if_neg (fun h => c (hi j n hj (by omega) (by rw [e, h]))), ih (fun i j a b => hi i j (by omega) (by omega)) (by omega)]
theorem sum_cnt {P : Nat → Int} {f : Nat → Int} {n : Nat} (hi : ∀ i j, i < n → j < n → f i = f j → i = j) : ∀ k, (∀ i, i < k → ∃ j, j < n ∧ f j = P i) → sumN (fun j => cntP P k (f j)) n = k := by
  intro k
  induction k with
  | zero => intro _; exact sumN_zero (fun _ _ => rfl)
  | succ k ih =>
    intro h
    obtain ⟨j, hj, e⟩ := h k (by omega)
    simp only [cntP]
    rw [sumN_add, ih (fun i hi => h i (by omega)), sumN_one hi j hj e]

theorem LadI.price_inj {w : World} {lp : Nat} {side most : Int} {v : Value} {u : Nat → Nat} {n : Nat} {f : Nat → Lvl} (h : LadI w lp side most v u n f) (i j : Nat) (hi : i < n) (hj : j < n) (e : (f i).price = (f j).price) : i = j := by
  rcases Nat.lt_trichotomy i j with c | c | c
  · have := h.r.sorted i j c hj; rw [e] at this; omega
  · exact c
  · have := h.r.sorted j i c hi; rw [e] at this; omega

theorem LadI.fr {S : List Nat} {w w' : World} {lp : Nat} {side most : Int} {v : Value} {u : Nat → Nat} {n : Nat} {f : Nat → Lvl} (hf : Fr S w w') (h1 : lp ∉ S) (h2 : ∀ g, v.ownBlock = some g → g ∉ S) (h : LadI w lp side most v u n f) : LadI w' lp side most v u n f :=
  ⟨h.r.fr hf h1 h2, h.word, h.bit, h.low, h.qty, h.ord, h.inj, h.own⟩
theorem LadI.cast {w : World} {lp : Nat} {side most : Int} {v : Value} {u : Nat → Nat} {n n' : Nat} {f f' : Nat → Lvl} (h : LadI w lp side most v u n f) (e : n = n') (e' : f = f') : LadI w lp side most v u n' f' := e ▸ e' ▸ h

/-- A ladder of this call's own making, with the first k prices. -/
structure SInv (w W : World) (lp : Nat) (side : Int) (P : Nat → Int) (k n : Nat) (v : Value) (u : Nat → Nat) (f : Nat → Lvl) : Prop where
  i : LadI W lp side 40 v u n f
  fr : Fr [] w W
  lp0 : w.heap.size ≤ lp
  own0 : ∀ g, v.ownBlock = some g → w.heap.size ≤ g
  cnt : ∀ j, j < n → (f j).orders = (cntP P k (f j).price : Int) ∧ (f j).qty = 3 * (cntP P k (f j).price : Int)
  cov : ∀ i, i < k → ∃ j, j < n ∧ (f j).price = P i
  nk : n ≤ k

theorem sorts_put (w W : World) (lp : Nat) (side : Int) (P : Nat → Int) (k n : Nat) (v : Value) (u : Nat → Nat) (f : Nat → Lvl) (h : SInv w W lp side P k n v u f) (hk : k < 40) (hp : 1 ≤ P k ∧ P k ≤ 4611686018427387904) :
    Calls Try.prog 53 #[.pointer (some ⟨lp, 0, none⟩), .int .i64 (P k), .int .i64 3] W fun e W' => ∃ q n' v' u' f', e = .returned (.tuple #[.int .i64 q, .int .i64 0]) ∧ SInv w W' lp side P (k + 1) n' v' u' f' := by
  have hle := cntP_le P k (P k)
  by_cases c : ∃ j, j < n ∧ (f j).price = P k
  · obtain ⟨j, hj, e⟩ := c
    have h1 := h.cnt j hj
    rw [e] at h1
    refine (e ▸ put_more W lp side 40 v u n f h.i j hj 3 (by omega) (by omega) (by omega)).mono ?_
    rintro e W' ⟨rfl, F, I⟩
    refine ⟨_, _, _, _, _, rfl, I, fr_fresh F (by intro x hx; exact h.own0 x (by simpa using hx)) h.fr, h.lp0, h.own0, fun i hi => ?_, fun i hi => ?_, by have := h.nk; omega⟩
    · by_cases d : i = j
      · subst d
        rw [updF_self]
        unfold cntP
        simp only [e, if_true]
        omega
      · rw [updF_ne d]
        have h2 := h.cnt i hi
        unfold cntP
        rw [if_neg (fun h3 => d (h.i.price_inj i j hi hj (by rw [e, ← h3])))]
        exact h2
    · have hpr : ∀ i, (updF f j ⟨P k, (f j).qty + 3, (f j).orders + 1, (f j).queue⟩ i).price = (f i).price := fun i => by
        by_cases d : i = j
        · subst d; rw [updF_self]; exact e.symm
        · rw [updF_ne d]
      rcases (show i < k ∨ i = k by omega) with d | rfl
      · obtain ⟨a, ha, e'⟩ := h.cov i d
        exact ⟨a, ha, by rw [hpr]; exact e'⟩
      · exact ⟨j, hj, by rw [hpr]; exact e⟩
  · have hno : ∀ j, j < n → (f j).price ≠ P k := fun j hj e => c ⟨j, hj, e⟩
    refine (put_new W lp side 40 v u n f h.i (P k) 3 (by omega) (by omega) hno (by have := h.nk; omega)).mono ?_
    rintro e W' ⟨q, i, v', rfl, F, hv', hpl, I, _, _⟩
    have hin := hpl.1
    have hz : cntP P k (P k) = 0 := cntP_none fun a ha e => by
      obtain ⟨j, hj, e'⟩ := h.cov a ha
      exact hno j hj (by rw [e', e])
    refine ⟨_, _, _, _, _, rfl, I, fr_fresh F ?_ h.fr, h.lp0, ?_, fun a ha => ?_, fun a ha => ?_, by have := h.nk; omega⟩
    · intro x hx
      rcases List.mem_cons.1 hx with rfl | hx
      · exact h.lp0
      · exact h.own0 x (by simpa using hx)
    · intro g hg
      rcases hv' with e | ⟨g', e, hg'⟩
      · exact h.own0 g (by rw [← e]; exact hg)
      · rw [hg] at e; cases e
        have := h.fr.size; omega
    · rcases insF_cases (f := f) (x := ⟨P k, 3, 1, q⟩) hin a ha with ⟨_, g⟩ | ⟨j, hj, g, _⟩
      · rw [g]
        simp only [cntP, hz, if_true]
        omega
      · rw [g]
        have h2 := h.cnt j hj
        unfold cntP
        rw [if_neg (fun h3 => hno j hj h3.symm)]
        exact h2
    · rcases (show a < k ∨ a = k by omega) with d | rfl
      · obtain ⟨j, hj, e'⟩ := h.cov a d
        obtain ⟨b, hb, _, e2⟩ := insF_old (f := f) (x := ⟨P k, 3, 1, q⟩) hin j hj
        exact ⟨b, hb, by rw [e2]; exact e'⟩
      · exact ⟨i, by omega, by simp [insF]⟩

/-- Better, the document's. -/
theorem refBetter_any (w : World) (side a b : Int) (hs : side = 0 ∨ side = 1) (h : keyI side a < keyI side b) :
    Calls Try.prog 55 #[.int .i64 side, .int .i64 a, .int .i64 b] w fun e w' => e = .returned (.bool true) ∧ w = w' := by
  rcases hs with rfl | rfl
  · have h' : b < a := by simp [keyI] at h; omega
    clear h
    go_enter Try.func55, Try.ntmps55
    go_wp2_with fail
    go_ret
    exact ⟨rfl, rfl⟩
  · have h' : a < b := by simp [keyI] at h; omega
    clear h
    go_enter Try.func55, Try.ntmps55
    go_wp2_with fail
    go_ret
    exact ⟨rfl, rfl⟩

theorem sorts_take (W : World) (lp : Nat) (side : Int) (n : Nat) (v : Value) (u : Nat → Nat) (g : Nat → Lvl) (x : Lvl) (h : LadI W lp side 40 v u (n + 1) (updF g 0 x)) (hq : 3 ≤ x.qty) (ho : x.orders ≤ 1000) :
    Calls Try.prog 56 #[.pointer (some ⟨lp, 0, none⟩), .int .i64 x.price, .int .i64 3, .bool true] W fun e W' => e = .returned (.tuple #[.int .i64 x.queue, .int .i64 0]) ∧ Fr (lp :: v.ownBlock.toList) W W' ∧
      ∃ v' u', v'.ownBlock = v.ownBlock ∧ ((1 < x.orders → LadI W' lp side 40 v' u' (n + 1) (updF g 0 ⟨x.price, x.qty - 3, x.orders - 1, x.queue⟩)) ∧ (x.orders = 1 → LadI W' lp side 40 v' u' n (fun j => g (j + 1)))) := by
  have h0 := h.ord 0 (by omega)
  rw [updF_self] at h0
  by_cases c : 1 < x.orders
  · have ht := take_less W lp side 40 v u (n + 1) _ h 0 (by omega) 3 (by rw [updF_self]; omega) true (fun _ => by rw [updF_self]; exact c) (by rw [updF_self]; omega)
    rw [updF_self] at ht
    refine ht.mono ?_
    rintro e W' ⟨rfl, F, I⟩
    refine ⟨rfl, F.mono (fun x hx => List.mem_cons_of_mem _ hx), v, u, rfl, fun _ => I.cast rfl ?_, fun e => by omega⟩
    funext j
    unfold updF
    split <;> simp
  · have c1 : x.orders = 1 := by omega
    have ht := take_last W lp side 40 v u (n + 1) _ h 0 (by omega) 3 (by rw [updF_self]; omega) (by rw [updF_self]; exact c1)
    rw [updF_self] at ht
    refine ht.mono ?_
    rintro e W' ⟨rfl, F, v', u', hv, I⟩
    refine ⟨rfl, F, v', u', hv, fun h => by omega, fun _ => I.cast (by omega) ?_⟩
    funext j
    unfold delF updF
    rw [if_neg (by omega), if_neg (by omega)]

def innF (f : Nat → Lvl) : Nat → Nat → Bool
  | 0, _ => false
  | i + 1, q => innF f i q || decide ((f i).queue = (q : Int))
theorem innF_no {f : Nat → Lvl} {i q : Nat} (h : ∀ j, j < i → (f j).queue ≠ (q : Int)) : innF f i q = false := by
  induction i with
  | zero => rfl
  | succ i ih => unfold innF; rw [ih (fun j hj => h j (by omega))]; simp [h i (by omega)]
end Go.Proofs.Ytgddmkgmpibpgaa
