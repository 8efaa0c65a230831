/- The ladder: Put. -/
import Derived.Test.YtkimldeagndgjaaLadD
import Derived.Test.YtkimldeagndgjaaFix
namespace Go.Proofs.Ytkimldeagndgjaa
set_option linter.unusedVariables false
set_option linter.unusedSimpArgs false
open Go.RowKit

/-- A ladder in memory, and its queues: a bit is set for each level's, and no two share one. -/
structure LadI (w : World) (lp : Nat) (side most : Int) (v : Value) (u : Nat → Nat) (n : Nat) (f : Nat → Lvl) : Prop where
  r : LadR w lp side most v u n f
  word : ∀ i, i < 4 → u i < 2 ^ 64
  bit : ∀ q, q < 256 → (usedB u q = true ↔ ∃ i, i < n ∧ (f i).queue = (q : Int))
  low : ∀ i, i < n → 0 ≤ (f i).queue ∧ (f i).queue < most
  qty : ∀ i, i < n → 0 ≤ (f i).qty ∧ (f i).qty ≤ 9223372036854775807
  ord : ∀ i, i < n → 1 ≤ (f i).orders
  inj : ∀ i j, i < n → j < n → (f i).queue = (f j).queue → i = j
  own : v.ownBlock ≠ some lp

theorem put_nil (w : World) (p q : Int) :
    Calls Try.prog 87 #[.pointer none, .int .i64 p, .int .i64 q] w fun e w' => e = .returned (.tuple #[.int .i64 0, .int .i64 1]) ∧ w = w' := by
  go_enter Try.func87, Try.ntmps87
  go_wp2_with fail
  go_ret2
  exact ⟨rfl, rfl⟩
theorem put_range (w : World) (lp : Nat) (p q : Int) (h : p < 1 ∨ q < 1) :
    Calls Try.prog 87 #[.pointer (some ⟨lp, 0, none⟩), .int .i64 p, .int .i64 q] w fun e w' => e = .returned (.tuple #[.int .i64 0, .int .i64 9]) ∧ w = w' := by
  have h' : p < 1 ∨ (¬ p < 1 ∧ q < 1) := by omega
  clear h
  rcases h' with h | ⟨h, h2⟩
  all_goals
    go_enter Try.func87, Try.ntmps87
    go_wp2_with fail
    go_ret2
    exact ⟨rfl, rfl⟩
theorem put_full (w : World) (lp : Nat) (side most : Int) (v : Value) (u : Nat → Nat) (n : Nat) (f : Nat → Lvl) (h : LadI w lp side most v u n f) (p q : Int) (hp : 1 ≤ p ∧ p ≤ 9223372036854775807) (hq : 1 ≤ q) (hno : ∀ j, j < n → (f j).price ≠ p) (hfull : most ≤ n) :
    Calls Try.prog 87 #[.pointer (some ⟨lp, 0, none⟩), .int .i64 p, .int .i64 q] w fun e w' => e = .returned (.tuple #[.int .i64 0, .int .i64 7]) ∧ Fr [] w w' := by
  have HP := Lib.hid (h.r.find p (by unfold In63; omega))
  obtain ⟨A, cap, rfl⟩ := h.r.form
  have HN := Lib.hid hno
  have HX := Lib.hid h
  have p1 := hp.1
  clear h hno hp
  go_enter Try.func87, Try.ntmps87
  go_wp2_with fail
  refine HP.out.mono ?_
  rintro e w1 ⟨i, rfl, F1, hpl⟩
  rw [placed_no HN.out]
  have c := (Blk.via F1 (by simp) HX.out.r.b).cell
  go_wp2_with fail
  go_quiet (fail)
  go_wp2_with fail
  go_ret2
  exact ⟨rfl, by with_reducible repeat (first | exact Fr.refl _ _ | assumption | apply Fr.drew | apply Fr.drewN | apply Fr.alloc | (apply Fr.step; assumption; (intro _ h; (first | exact h | (focus (simp_all; done))))) | (apply Fr.setIn; (first | exact List.mem_cons_self | exact List.mem_cons_of_mem _ List.mem_cons_self | exact List.mem_cons_of_mem _ (List.mem_cons_of_mem _ List.mem_cons_self) | exact List.mem_cons_of_mem _ (List.mem_cons_of_mem _ (List.mem_cons_of_mem _ List.mem_cons_self)))) | (apply Fr.setNew; (first | omega | (simp; omega))))⟩
theorem ins_sorted {side : Int} {n : Nat} {f : Nat → Lvl} {x : Lvl} {i : Nat} (hs : ∀ i j, i < j → j < n → keyI side (f i).price < keyI side (f j).price) (hp : Placed side n f x.price i) (hno : ∀ j, j < n → (f j).price ≠ x.price) :
    ∀ a b, a < b → b < n + 1 → keyI side (insF f i x a).price < keyI side (insF f i x b).price := by
  intro a b hab hb
  have hgt : ∀ j, i ≤ j → j < n → keyI side x.price < keyI side (f j).price := fun j h1 h2 => by
    have h3 := hp.2.2 j h1 h2
    have h4 : keyI side (f j).price ≠ keyI side x.price := fun e => hno j h2 (keyI_inj e)
    omega
  unfold insF
  by_cases a1 : a < i
  · by_cases b1 : b < i
    · rw [if_pos a1, if_pos b1]; exact hs a b hab (by have := hp.1; omega)
    · by_cases b2 : b = i
      · rw [if_pos a1, if_neg b1, if_pos b2]; exact hp.2.1 a a1
      · rw [if_pos a1, if_neg b1, if_neg b2]; exact hs a (b - 1) (by omega) (by omega)
  · by_cases a2 : a = i
    · rw [if_neg a1, if_pos a2, if_neg (by omega), if_neg (by omega)]; exact hgt (b - 1) (by omega) (by omega)
    · rw [if_neg a1, if_neg a2, if_neg (by omega), if_neg (by omega)]; exact hs (a - 1) (b - 1) (by omega) (by omega)

theorem pigeon : ∀ (n : Nat) (g : Nat → Nat), (∀ i, i ≤ n → g i < n) → (∀ i j, i ≤ n → j ≤ n → g i = g j → i = j) → False := by
  intro n
  induction n with
  | zero => intro g h _; have := h 0 (Nat.le_refl _); omega
  | succ n ih =>
    intro g h hi
    refine ih (fun i => if g i = n then g (n + 1) else g i) (fun i hl => ?_) (fun i j h1 h2 e => ?_)
    · have a := h i (by omega)
      have b := h (n + 1) (by omega)
      split
      · rename_i c
        have : g (n + 1) ≠ n := fun d => by have := hi i (n + 1) (by omega) (by omega) (by omega); omega
        omega
      · omega
    · split at e <;> split at e
      · exact hi i j (by omega) (by omega) (by omega)
      · have := hi (n + 1) j (by omega) (by omega) e; omega
      · have := hi i (n + 1) (by omega) (by omega) e; omega
      · exact hi i j (by omega) (by omega) e
/-- The least free queue. -/
theorem LadI.least {w : World} {lp : Nat} {side most : Int} {v : Value} {u : Nat → Nat} {n : Nat} {f : Nat → Lvl} (h : LadI w lp side most v u n f) : ∃ q, q ≤ n ∧ usedB u q = false ∧ ∀ p, p < q → usedB u p = true := by
  have hn : n ≤ 200 := by have := h.r.hn; have := h.r.hmost; omega
  have key : ∃ q, q ≤ n ∧ usedB u q = false := Classical.byContradiction fun hc => by
    have hall : ∀ q, q ≤ n → ∃ i, i < n ∧ (f i).queue = (q : Int) := fun q hq => (h.bit q (by omega)).1 (by
      cases hb : usedB u q
      · exact absurd ⟨q, hq, hb⟩ hc
      · rfl)
    refine pigeon n (fun q => if hq : q ≤ n then Classical.choose (hall q hq) else 0) (fun i hi => ?_) (fun i j hi hj e => ?_)
    · rw [dif_pos hi]; exact (Classical.choose_spec (hall i hi)).1
    · rw [dif_pos hi, dif_pos hj] at e
      have a := (Classical.choose_spec (hall i hi)).2
      have b := (Classical.choose_spec (hall j hj)).2
      rw [e] at a
      omega
  obtain ⟨q, hq⟩ := key
  clear h
  induction q using Nat.strongRecOn with
  | ind q ih =>
    by_cases c : ∃ p, p < q ∧ usedB u p = false
    · obtain ⟨p, hp, hb⟩ := c
      exact ih p hp ⟨by omega, hb⟩
    · refine ⟨q, hq.1, hq.2, fun p hp => ?_⟩
      cases hb : usedB u p
      · exact absurd ⟨p, hp, hb⟩ c
      · rfl
theorem setU_used (u : Nat → Nat) (q p : Nat) : usedB (setU u q) p = (usedB u p || decide (p = q)) := by
  unfold usedB setU
  by_cases c : p / 64 = q / 64
  · rw [if_pos c, Nat.testBit_or, Nat.testBit_two_pow]
    congr 1
    by_cases d : p = q
    · subst d; simp
    · have : ¬ q % 64 = p % 64 := by omega
      simp [d, this]
  · rw [if_neg c]
    have : ¬ p = q := fun e => c (by rw [e])
    simp [this]
theorem setU_lt {u : Nat → Nat} {q : Nat} (hu : ∀ i, i < 4 → u i < 2 ^ 64) : ∀ i, i < 4 → setU u q i < 2 ^ 64 := by
  intro i hi
  unfold setU
  split
  · exact Nat.or_lt_two_pow (hu i hi) (Nat.pow_lt_pow_right (by omega) (Nat.mod_lt _ (by omega)))
  · exact hu i hi
theorem insF_lt {f : Nat → Lvl} {i : Nat} {x : Lvl} {n : Nat} {Q : Lvl → Prop} (hx : Q x) (hf : ∀ j, j < n → Q (f j)) (hi : i ≤ n) : ∀ j, j < n + 1 → Q (insF f i x j) := by
  intro j hj
  unfold insF
  split
  · exact hf j (by omega)
  · split
    · exact hx
    · exact hf (j - 1) (by omega)
/-- The place of an old level behind an insertion. -/
theorem insF_old {f : Nat → Lvl} {i : Nat} {x : Lvl} {n : Nat} (hi : i ≤ n) (j : Nat) (hj : j < n) : ∃ k, k < n + 1 ∧ k ≠ i ∧ insF f i x k = f j := by
  by_cases c : j < i
  · exact ⟨j, by omega, by omega, by simp [insF, c]⟩
  · exact ⟨j + 1, by omega, by omega, by unfold insF; rw [if_neg (by omega), if_neg (by omega)]; rfl⟩
theorem insF_cases {f : Nat → Lvl} {i : Nat} {x : Lvl} {n : Nat} (hi : i ≤ n) (k : Nat) (hk : k < n + 1) : (k = i ∧ insF f i x k = x) ∨ ∃ j, j < n ∧ insF f i x k = f j ∧ k = (if j < i then j else j + 1) := by
  by_cases c : k < i
  · exact .inr ⟨k, by omega, by simp [insF, c], by rw [if_pos c]⟩
  · by_cases d : k = i
    · exact .inl ⟨d, by unfold insF; rw [if_neg c, if_pos d]⟩
    · exact .inr ⟨k - 1, by omega, by unfold insF; rw [if_neg c, if_neg d], by rw [if_neg (by omega)]; omega⟩
theorem ins_inj {f : Nat → Lvl} {i : Nat} {x : Lvl} {n : Nat} (hi : i ≤ n) (h : ∀ a b, a < n → b < n → (f a).queue = (f b).queue → a = b) (hx : ∀ a, a < n → (f a).queue ≠ x.queue) :
    ∀ a b, a < n + 1 → b < n + 1 → (insF f i x a).queue = (insF f i x b).queue → a = b := by
  intro a b ha hb e
  rcases insF_cases (f := f) (x := x) hi a ha with ⟨ea, ga⟩ | ⟨ja, ha', ga, ka⟩ <;> rcases insF_cases (f := f) (x := x) hi b hb with ⟨eb, gb⟩ | ⟨jb, hb', gb, kb⟩ <;> rw [ga, gb] at e
  · omega
  · exact absurd e.symm (hx jb hb')
  · exact absurd e (hx ja ha')
  · have := h ja jb ha' hb' e
    subst this
    omega
end Go.Proofs.Ytkimldeagndgjaa
