/- The ladder: Take. -/
import Derived.Test.YtkimldeagndgjaaLadH
namespace Go.Proofs.Ytkimldeagndgjaa
set_option linter.unusedVariables false
set_option linter.unusedSimpArgs false
open Go.RowKit

theorem take_nil (w : World) (p q : Int) (g : Bool) :
    Calls Try.prog 105 #[.pointer none, .int .i64 p, .int .i64 q, .bool g] w fun e w' => e = .returned (.tuple #[.int .i64 0, .int .i64 1]) ∧ w = w' := by
  go_enter Try.func105, Try.ntmps105
  go_wp2_with fail
  go_ret2
  exact ⟨rfl, rfl⟩
theorem take_unknown (w : World) (lp : Nat) (side most : Int) (v : Value) (u : Nat → Nat) (n : Nat) (f : Nat → Lvl) (h : LadI w lp side most v u n f) (p q : Int) (g : Bool) (hp : In63 p) (hno : ∀ j, j < n → (f j).price ≠ p) :
    Calls Try.prog 105 #[.pointer (some ⟨lp, 0, none⟩), .int .i64 p, .int .i64 q, .bool g] w fun e w' => e = .returned (.tuple #[.int .i64 0, .int .i64 5]) ∧ Fr [] w w' := by
  have HP := Lib.hid (h.r.find p hp)
  have HN := Lib.hid hno
  clear h hno
  go_enter Try.func105, Try.ntmps105
  go_wp2_with fail
  refine HP.out.mono ?_
  rintro e w1 ⟨i, rfl, F1, hpl⟩
  rw [placed_no HN.out]
  go_wp2_with fail
  go_ret2
  exact ⟨rfl, F1⟩

theorem take_less (w : World) (lp : Nat) (side most : Int) (v : Value) (u : Nat → Nat) (n : Nat) (f : Nat → Lvl) (h : LadI w lp side most v u n f) (j : Nat) (hj : j < n) (q : Int) (hq : 0 ≤ q ∧ q ≤ (f j).qty) (g : Bool) (hg : g = true → 1 < (f j).orders) (ho : (f j).orders ≤ 1000000) :
    Calls Try.prog 105 #[.pointer (some ⟨lp, 0, none⟩), .int .i64 (f j).price, .int .i64 q, .bool g] w fun e w' => e = .returned (.tuple #[.int .i64 (f j).queue, .int .i64 0]) ∧ Fr v.ownBlock.toList w w' ∧
      LadI w' lp side most v u n (updF f j ⟨(f j).price, (f j).qty - q, (f j).orders - (if g then 1 else 0), (f j).queue⟩) := by
  have HP := Lib.hid (h.r.find (f j).price (h.r.in63 j hj))
  have y1 := h.qty j hj
  have y0 := y1.1
  have y2 := y1.2
  have o1 := h.ord j hj
  have q0 := hq.1
  have q1 := hq.2
  have hv := h.own
  have HX := Lib.hid h
  have HVL := Lib.hid hv
  clear h hv y1 hq
  cases g with
  | false =>
    have o2 : ((f j).orders == 0) = false := by simp; omega
    go_enter Try.func105, Try.ntmps105
    go_wp2_with fail
    refine HP.out.mono ?_
    rintro e w1 ⟨i, rfl, F1, hpl⟩
    obtain ⟨rfl, hb⟩ := placed_yes hpl HX.out.r.sorted hj rfl
    rw [hb]
    have H1 := HX.out.r.fr F1 (by simp) (by simp)
    have c : w1.cell? ⟨lp, 2, none⟩ = some v := (H1.b.cell 2).trans rfl
    obtain ⟨lb, cap, cur, rfl, hnc, B, m0, m1, m2, m3⟩ := H1.lv hj
    have i1 : (i : Int) < (n : Int) := by omega
    have fb := B.frozen
    have lB := B.lt
    clear hb hpl hg
    go_wp2_with fail
    go_ret2
    refine ⟨rfl, ?_, HX.out.upd _ rfl rfl (by dsimp only; omega) (by dsimp only; (try simp only [if_true, Bool.false_eq_true, if_false]); omega) ?_ ?_⟩
    · exact Fr.setIn (by simp [Value.ownBlock]) (F1.mono (by simp))
    · have hne : lp ≠ lb := fun e => HVL.out (by rw [e]; rfl)
      exact (H1.b.off hne)
    · exact (H1.r.set _ (j0 := 1) (by omega) (fun a b ha hb => by
        unfold updF lvC
        by_cases c : a = i
        · subst c
          rcases (show b = 0 ∨ b = 1 ∨ b = 2 ∨ b = 3 by omega) with rfl | rfl | rfl | rfl <;> simp
        · simp [c]))
  | true =>
    have o2 := hg rfl
    have o3 : ((f j).orders - 1 == 0) = false := by simp; omega
    clear hg
    go_enter Try.func105, Try.ntmps105
    go_wp2_with fail
    refine HP.out.mono ?_
    rintro e w1 ⟨i, rfl, F1, hpl⟩
    obtain ⟨rfl, hb⟩ := placed_yes hpl HX.out.r.sorted hj rfl
    rw [hb]
    have H1 := HX.out.r.fr F1 (by simp) (by simp)
    have c : w1.cell? ⟨lp, 2, none⟩ = some v := (H1.b.cell 2).trans rfl
    obtain ⟨lb, cap, cur, rfl, hnc, B, m0, m1, m2, m3⟩ := H1.lv hj
    have i1 : (i : Int) < (n : Int) := by omega
    have fb := B.frozen
    have lB := B.lt
    clear hb hpl
    go_wp2_with fail
    go_ret2
    refine ⟨rfl, ?_, HX.out.upd _ rfl rfl (by dsimp only; omega) (by dsimp only; (try simp only [if_true, Bool.false_eq_true, if_false]); omega) ?_ ?_⟩
    · exact Fr.setIn (by simp [Value.ownBlock]) (Fr.setIn (by simp [Value.ownBlock]) (F1.mono (by simp)))
    · have hne : lp ≠ lb := fun e => HVL.out (by rw [e]; rfl)
      exact ((H1.b.off hne).off hne)
    · exact (H1.r.set (updF f i ⟨(f i).price, (f i).qty - q, (f i).orders, (f i).queue⟩) (j0 := 1) (by omega) (fun a b ha hb => by
        unfold updF lvC
        by_cases c : a = i
        · subst c
          rcases (show b = 0 ∨ b = 1 ∨ b = 2 ∨ b = 3 by omega) with rfl | rfl | rfl | rfl <;> simp
        · simp [c])).set _ (j0 := 2) (by omega) (fun a b ha hb => by
        unfold updF lvC
        by_cases c : a = i
        · subst c
          rcases (show b = 0 ∨ b = 1 ∨ b = 2 ∨ b = 3 by omega) with rfl | rfl | rfl | rfl <;> simp
        · simp [c])

def clrU (u : Nat → Nat) (q : Nat) : Nat → Nat := fun i => if i = q / 64 then u i &&& (2 ^ 64 - (2 ^ (q % 64) + 1)) else u i
theorem bit_andNot {x b : Nat} (hx : x < 2 ^ 64) (hb : b < 64) : bits .andNot .u64 (x : Int) (IntKind.u64.wrap (2 ^ b)) = ((x &&& (2 ^ 64 - (2 ^ b + 1)) : Nat) : Int) := by
  have hp : 2 ^ b < 2 ^ 64 := Nat.pow_lt_pow_right (by omega) hb
  have e : ((2 : Int) ^ b) = ((2 ^ b : Nat) : Int) := by simp
  rw [e]
  generalize (2 : Nat) ^ b = y at hp ⊢
  rw [Go.IntWalk.u64_in _ (by omega)]
  have h1 : (BitVec.ofInt 64 (x : Int)).toNat = x := by
    rw [BitVec.ofInt_natCast, BitVec.toNat_ofNat]; exact Nat.mod_eq_of_lt (by omega)
  have h2 : (BitVec.ofInt 64 (y : Int)).toNat = y := by
    rw [BitVec.ofInt_natCast, BitVec.toNat_ofNat]; exact Nat.mod_eq_of_lt (by omega)
  show IntKind.u64.wrap ((BitVec.ofInt 64 (x : Int) &&& ~~~ BitVec.ofInt 64 (y : Int)).toNat : Int) = _
  rw [BitVec.toNat_and, BitVec.toNat_not, h1, h2, show 2 ^ 64 - 1 - y = 2 ^ 64 - (y + 1) by omega]
  have hl : x &&& (2 ^ 64 - (y + 1)) ≤ x := Nat.and_le_left
  rw [Go.IntWalk.u64_in _ (by omega)]
theorem clrU_lt {u : Nat → Nat} {q : Nat} (hu : ∀ i, i < 4 → u i < 2 ^ 64) : ∀ i, i < 4 → clrU u q i < 2 ^ 64 := by
  intro i hi
  unfold clrU
  split
  · exact Nat.lt_of_le_of_lt Nat.and_le_left (hu i hi)
  · exact hu i hi
theorem clrU_used (u : Nat → Nat) (q p : Nat) : usedB (clrU u q) p = (usedB u p && !decide (p = q)) := by
  unfold usedB clrU
  by_cases c : p / 64 = q / 64
  · have hm : q % 64 < 64 := Nat.mod_lt _ (by omega)
    have hp : p % 64 < 64 := Nat.mod_lt _ (by omega)
    rw [if_pos c, Nat.testBit_and, Nat.testBit_two_pow_sub_succ (Nat.pow_lt_pow_right (by omega) hm), Nat.testBit_two_pow]
    congr 1
    by_cases d : p = q
    · subst d; simp
    · have : ¬ q % 64 = p % 64 := by omega
      simp [d, this, hp]
  · rw [if_neg c]
    have : ¬ p = q := fun e => c (by rw [e])
    simp [this]

theorem delF_upd {f : Nat → Lvl} {i : Nat} {x : Lvl} : delF (updF f i x) i = delF f i := by
  funext j
  unfold delF updF
  split
  · rw [if_neg (by omega)]
  · rw [if_neg (by omega)]
theorem delF_all {f : Nat → Lvl} {i n : Nat} {Q : Lvl → Prop} (hi : i < n) (hf : ∀ j, j < n → Q (f j)) : ∀ j, j < n - 1 → Q (delF f i j) := by
  intro j hj
  unfold delF
  split
  · exact hf j (by omega)
  · exact hf (j + 1) (by omega)
theorem delF_cases {f : Nat → Lvl} {i n : Nat} (j : Nat) (hj : j < n - 1) : ∃ k, k < n ∧ k ≠ i ∧ delF f i j = f k ∧ k = (if j < i then j else j + 1) := by
  unfold delF
  by_cases c : j < i
  · exact ⟨j, by omega, by omega, by rw [if_pos c], by rw [if_pos c]⟩
  · exact ⟨j + 1, by omega, by omega, by rw [if_neg c], by rw [if_neg c]⟩
theorem delF_old {f : Nat → Lvl} {i n : Nat} (hi : i < n) (k : Nat) (hk : k < n) (hki : k ≠ i) : ∃ j, j < n - 1 ∧ delF f i j = f k := by
  unfold delF
  by_cases c : k < i
  · exact ⟨k, by omega, by rw [if_pos c]⟩
  · exact ⟨k - 1, by omega, by rw [if_neg (by omega), show k - 1 + 1 = k by omega]⟩

/-- A level gone. -/
theorem LadI.del {w w' : World} {lp : Nat} {side most : Int} {v v' : Value} {u : Nat → Nat} {n k : Nat} {f : Nat → Lvl} (h : LadI w lp side most v u n f) {i : Nat} (hi : i < n) (hk : (f i).queue = (k : Int)) (hv' : v'.ownBlock = v.ownBlock)
    (B : BlkL w' lp side most v' (clrU u k)) (R : RowL w' v' (n - 1) (delF f i)) : LadI w' lp side most v' (clrU u k) (n - 1) (delF f i) := by
  refine ⟨⟨B, R, h.r.hside, h.r.hmost, by have := h.r.hn; omega, delF_all (Q := fun x => 1 ≤ x.price ∧ x.price ≤ 9223372036854775807) hi h.r.price, fun a b hab hb => ?_⟩, clrU_lt h.word, fun q hq => ?_, delF_all (Q := fun x => 0 ≤ x.queue ∧ x.queue < most) hi h.low, delF_all (Q := fun x => 0 ≤ x.qty ∧ x.qty ≤ 9223372036854775807) hi h.qty, delF_all (Q := fun x => 1 ≤ x.orders) hi h.ord, fun a b ha hb e => ?_, by rw [hv']; exact h.own⟩
  · obtain ⟨ka, h1, _, e1, e2⟩ := delF_cases (f := f) (i := i) (n := n) a (by omega)
    obtain ⟨kb, h3, _, e3, e4⟩ := delF_cases (f := f) (i := i) (n := n) b hb
    rw [e1, e3]
    refine h.r.sorted ka kb ?_ h3
    rw [e2, e4]
    split <;> split <;> omega
  · rw [clrU_used]
    constructor
    · intro hb
      rcases (show usedB u q = true ∧ ¬ q = k by simpa using hb) with ⟨h1, h2⟩
      obtain ⟨j, hj, e⟩ := (h.bit q hq).1 h1
      have hji : j ≠ i := fun c => by rw [c, hk] at e; omega
      obtain ⟨j', h3, h4⟩ := delF_old (f := f) hi j hj hji
      exact ⟨j', h3, by rw [h4]; exact e⟩
    · rintro ⟨j, hj, e⟩
      obtain ⟨j', h1, h2, h3, _⟩ := delF_cases (f := f) (i := i) (n := n) j hj
      rw [h3] at e
      have h4 := (h.bit q hq).2 ⟨j', h1, e⟩
      have h5 : ¬ q = k := fun c => h2 (h.inj j' i h1 hi (by rw [e, hk, c]))
      simp [h4, h5]
  · obtain ⟨ka, h1, _, e1, e2⟩ := delF_cases (f := f) (i := i) (n := n) a ha
    obtain ⟨kb, h3, _, e3, e4⟩ := delF_cases (f := f) (i := i) (n := n) b hb
    rw [e1, e3] at e
    have := h.inj ka kb h1 h3 e
    rw [e2, e4] at this
    split at this <;> split at this <;> omega

set_option maxHeartbeats 1000000 in
theorem take_last (w : World) (lp : Nat) (side most : Int) (v : Value) (u : Nat → Nat) (n : Nat) (f : Nat → Lvl) (h : LadI w lp side most v u n f) (j : Nat) (hj : j < n) (q : Int) (hq : 0 ≤ q ∧ q ≤ (f j).qty) (ho : (f j).orders = 1) :
    Calls Try.prog 105 #[.pointer (some ⟨lp, 0, none⟩), .int .i64 (f j).price, .int .i64 q, .bool true] w fun e w' => e = .returned (.tuple #[.int .i64 (f j).queue, .int .i64 0]) ∧ Fr (lp :: v.ownBlock.toList) w w' ∧
      ∃ v' u', v'.ownBlock = v.ownBlock ∧ LadI w' lp side most v' u' (n - 1) (delF f j) := by
  have HP := Lib.hid (h.r.find (f j).price (h.r.in63 j hj))
  have y1 := h.qty j hj
  have y0 := y1.1
  have y2 := y1.2
  have q0 := hq.1
  have q1 := hq.2
  have hmost := h.r.hmost.2
  obtain ⟨k, hk⟩ : ∃ k : Nat, (f j).queue = (k : Int) := ⟨(f j).queue.toNat, by have := h.low j hj; omega⟩
  have k1 : k < 200 := by have := h.low j hj; omega
  have hv := h.own
  have HX := Lib.hid h
  have HVL := Lib.hid hv
  have HO := Lib.hid ho
  have HK := Lib.hid hk
  clear h hv y1 hq ho hk
  go_enter Try.func105, Try.ntmps105
  go_wp2_with fail
  refine HP.out.mono ?_
  rintro e w1 ⟨i, rfl, F1, hpl⟩
  obtain ⟨rfl, hb⟩ := placed_yes hpl HX.out.r.sorted hj rfl
  rw [hb]
  have H1 := HX.out.r.fr F1 (by simp) (by simp)
  have c : w1.cell? ⟨lp, 2, none⟩ = some v := (H1.b.cell 2).trans rfl
  obtain ⟨lb, cap, cur, rfl, hnc, B, m0, m1, m2, m3⟩ := H1.lv hj
  have i1 : (i : Int) < (n : Int) := by omega
  have fb := B.frozen
  have lB := B.lt
  rw [HO.out] at m2
  rw [HK.out] at m3
  clear hb hpl
  go_wp2_with fail
  refine wp_name (fun W hW => ?_)
  have hne : lp ≠ lb := fun e => HVL.out (by rw [e]; rfl)
  have BW : BlkL W lp side most (.slice (some ⟨lb, 0, none⟩) n cap) u := Blk.eqv hW ((H1.b.off hne).off hne)
  have RW : RowL W (.slice (some ⟨lb, 0, none⟩) n cap) n (updF f i ⟨(f i).price, (f i).qty - q, 0, (f i).queue⟩) := hW ▸ (H1.r.set (updF f i ⟨(f i).price, (f i).qty - q, (f i).orders, (f i).queue⟩) (j0 := 1) (by omega) (fun a b ha hb => by
        unfold updF lvC
        by_cases c : a = i
        · subst c
          rcases (show b = 0 ∨ b = 1 ∨ b = 2 ∨ b = 3 by omega) with rfl | rfl | rfl | rfl <;> simp
        · simp [c])).set _ (j0 := 2) (by omega) (fun a b ha hb => by
        unfold updF lvC
        by_cases c : a = i
        · subst c
          rcases (show b = 0 ∨ b = 1 ∨ b = 2 ∨ b = 3 by omega) with rfl | rfl | rfl | rfl <;> simp
        · simp [c])
  have FW : Fr [lb] w W := Fr.eqv hW (Fr.setIn (by simp) (Fr.setIn (by simp) (F1.mono (by simp))))
  have hcell : ∀ i, i < 4 → W.cell? ⟨lp, 3 + i, none⟩ = some (.int .u64 (u i : Int)) := by
    intro i hi
    rcases (show i = 0 ∨ i = 1 ∨ i = 2 ∨ i = 3 by omega) with rfl | rfl | rfl | rfl
    · exact (BW.cell 3).trans rfl
    · exact (BW.cell 4).trans rfl
    · exact (BW.cell 5).trans rfl
    · exact (BW.cell 6).trans rfl
  obtain ⟨a, ha⟩ : ∃ a, k / 64 = a := ⟨_, rfl⟩
  obtain ⟨b, hb⟩ : ∃ b, k % 64 = b := ⟨_, rfl⟩
  have x := hcell a (by omega)
  have ux := HX.out.word a (by omega)
  have hf := BW.frozen
  have k0 : (0 : Int) ≤ (k : Int) := by omega
  have k3 : a < 4 := by omega
  have k4 : (a : Int) < 4 := by omega
  have k6 : (0 : Int) ≤ (a : Int) := by omega
  have k5 : b < 64 := by omega
  have k7 : (b : Int) < 64 := by omega
  have k8 : (0 : Int) ≤ (b : Int) := by omega
  have lw := BW.lt
  have c2 : W.cell? ⟨lp, 2, none⟩ = some (.slice (some ⟨lb, 0, none⟩) n cap) := (BW.cell 2).trans rfl
  have a2 : ¬ 2 = 3 + a := by omega
  have a3 : ¬ 3 + a = 2 := by omega
  have HA := Lib.hid ha
  have HB := Lib.hid hb
  clear hcell hW c m0 m1 m2 m3 fb B F1 H1 ha hb
  refine u_region (S := fun w' => w'.cell? ⟨lp, 3 + a, none⟩ = some (.int .u64 (u a : Int))) 14 (by kernel_rfl) (by kernel_rfl) (by kernel_rfl) (by kernel_rfl) (by kernel_rfl) x ?_
  (refine u_take 0 (v := ?_) rfl rfl (by kernel_rfl) (by kernel_rfl) (fun _ _ _ h => h) (Or.inl ⟨by rfl, ?_⟩) ?_; rotate_left; (focus (intro wz hSw; (try dsimp only at hSw); go_simp; (try with_reducible rfl))); (try simp only [Act.put, List.getElem_toArray, List.getElem_cons_succ, List.getElem_cons_zero, List.setIfInBounds_toArray, List.set_cons_zero, List.set_cons_succ]))
  (refine u_take 1 (v := ?_) rfl rfl (by kernel_rfl) (by kernel_rfl) (fun _ _ _ h => h) (Or.inl ⟨by rfl, ?_⟩) ?_; rotate_left; (focus (intro wz hSw; (try dsimp only at hSw); go_simp; (try with_reducible rfl))); (try simp only [Act.put, List.getElem_toArray, List.getElem_cons_succ, List.getElem_cons_zero, List.setIfInBounds_toArray, List.set_cons_zero, List.set_cons_succ]))
  (refine u_take 2 (v := .int .i64 (a : Int)) rfl rfl (by kernel_rfl) (by kernel_rfl) (fun _ _ _ h => h) (Or.inl ⟨by rfl, ?_⟩) ?_; (focus (intro wz hSw; go_simp; rw [Go.IntWalk.i64_in _ (by omega), show (k : Int) / 64 = (a : Int) by have := HA.out; omega])); (try simp only [Act.put, List.getElem_toArray, List.getElem_cons_succ, List.getElem_cons_zero, List.setIfInBounds_toArray, List.set_cons_zero, List.set_cons_succ]))
  (refine u_take 3 (v := ?_) rfl rfl (by kernel_rfl) (by kernel_rfl) (fun _ _ _ h => h) (Or.inl ⟨by rfl, ?_⟩) ?_; rotate_left; (focus (intro wz hSw; (try dsimp only at hSw); go_simp; (try with_reducible rfl))); (try simp only [Act.put, List.getElem_toArray, List.getElem_cons_succ, List.getElem_cons_zero, List.setIfInBounds_toArray, List.set_cons_zero, List.set_cons_succ]))
  (refine u_take 4 (v := ?_) rfl rfl (by kernel_rfl) (by kernel_rfl) (fun _ _ _ h => h) (Or.inl ⟨by rfl, ?_⟩) ?_; rotate_left; (focus (intro wz hSw; (try dsimp only at hSw); go_simp; (try with_reducible rfl))); (try simp only [Act.put, List.getElem_toArray, List.getElem_cons_succ, List.getElem_cons_zero, List.setIfInBounds_toArray, List.set_cons_zero, List.set_cons_succ]))
  (refine u_take 5 (v := ?_) rfl rfl (by kernel_rfl) (by kernel_rfl) (fun _ _ _ h => h) (Or.inl ⟨by rfl, ?_⟩) ?_; rotate_left; (focus (intro wz hSw; (try dsimp only at hSw); go_simp; (try with_reducible rfl))); (try simp only [Act.put, List.getElem_toArray, List.getElem_cons_succ, List.getElem_cons_zero, List.setIfInBounds_toArray, List.set_cons_zero, List.set_cons_succ]))
  (refine u_take 6 (v := ?_) rfl rfl (by kernel_rfl) (by kernel_rfl) (fun _ _ _ h => h) (Or.inl ⟨by rfl, ?_⟩) ?_; rotate_left; (focus (intro wz hSw; (try dsimp only at hSw); go_simp; (try with_reducible rfl))); (try simp only [Act.put, List.getElem_toArray, List.getElem_cons_succ, List.getElem_cons_zero, List.setIfInBounds_toArray, List.set_cons_zero, List.set_cons_succ]))
  (refine u_take 7 (v := ?_) rfl rfl (by kernel_rfl) (by kernel_rfl) (fun _ _ _ h => h) (Or.inl ⟨by rfl, ?_⟩) ?_; rotate_left; (focus (intro wz hSw; (try dsimp only at hSw); go_simp; (try with_reducible rfl))); (try simp only [Act.put, List.getElem_toArray, List.getElem_cons_succ, List.getElem_cons_zero, List.setIfInBounds_toArray, List.set_cons_zero, List.set_cons_succ]))
  (refine u_take 8 (v := .int .i64 (b : Int)) rfl rfl (by kernel_rfl) (by kernel_rfl) (fun _ _ _ h => h) (Or.inl ⟨by rfl, ?_⟩) ?_; (focus (intro wz hSw; go_simp; rw [Int.tmod_eq_emod_of_nonneg (by omega)]; have := HB.out; omega)); (try simp only [Act.put, List.getElem_toArray, List.getElem_cons_succ, List.getElem_cons_zero, List.setIfInBounds_toArray, List.set_cons_zero, List.set_cons_succ]))
  (refine u_take 9 (v := ?_) rfl rfl (by kernel_rfl) (by kernel_rfl) (fun _ _ _ h => h) (Or.inl ⟨by rfl, ?_⟩) ?_; rotate_left; (focus (intro wz hSw; (try dsimp only at hSw); go_simp; (try with_reducible rfl))); (try simp only [Act.put, List.getElem_toArray, List.getElem_cons_succ, List.getElem_cons_zero, List.setIfInBounds_toArray, List.set_cons_zero, List.set_cons_succ]))
  (refine u_take 10 (v := ?_) rfl rfl (by kernel_rfl) (by kernel_rfl) (fun _ _ _ h => h) (Or.inl ⟨by rfl, ?_⟩) ?_; rotate_left; (focus (intro wz hSw; (try dsimp only at hSw); go_simp; (try with_reducible rfl))); (try simp only [Act.put, List.getElem_toArray, List.getElem_cons_succ, List.getElem_cons_zero, List.setIfInBounds_toArray, List.set_cons_zero, List.set_cons_succ]))
  (refine u_take 11 (v := ?_) rfl rfl (by kernel_rfl) (by kernel_rfl) (fun _ _ _ h => h) (Or.inl ⟨by rfl, ?_⟩) ?_; rotate_left; (focus (intro wz hSw; (try dsimp only at hSw); go_simp; (try with_reducible rfl))); (try simp only [Act.put, List.getElem_toArray, List.getElem_cons_succ, List.getElem_cons_zero, List.setIfInBounds_toArray, List.set_cons_zero, List.set_cons_succ]))
  (refine u_take 12 (v := ?_) rfl rfl (by kernel_rfl) (by kernel_rfl) (fun _ _ _ h => h) (Or.inl ⟨by rfl, ?_⟩) ?_; rotate_left; (focus (intro wz hSw; (try dsimp only at hSw); go_simp; (try with_reducible rfl))); (try simp only [Act.put, List.getElem_toArray, List.getElem_cons_succ, List.getElem_cons_zero, List.setIfInBounds_toArray, List.set_cons_zero, List.set_cons_succ]))
  (refine u_take 13 (v := ?_) rfl rfl (by kernel_rfl) (by kernel_rfl) (fun _ _ _ h => h) (Or.inl ⟨by rfl, ?_⟩) ?_; rotate_left; (focus (intro wz hSw; (try dsimp only at hSw); go_simp; (try with_reducible rfl))); (try simp only [Act.put, List.getElem_toArray, List.getElem_cons_succ, List.getElem_cons_zero, List.setIfInBounds_toArray, List.set_cons_zero, List.set_cons_succ]))
  refine u_last (by kernel_rfl) rfl (by kernel_rfl) ?_
  have n1000 : n ≤ 1000 := by have := HX.out.r.hn; omega
  have hne' : lb ≠ lp := fun e => hne e.symm
  have R5 : RowL (W.drew.setCell ⟨lp, 3 + a, none⟩ (.int .u64 (bits .andNot .u64 (u a : Int) (IntKind.u64.wrap (2 ^ b))))) (.slice (some ⟨lb, 0, none⟩) n cap) n (updF f i ⟨(f i).price, (f i).qty - q, 0, (f i).queue⟩) :=
    RW.via (Fr.setIn (S := [lp]) List.mem_cons_self (Fr.drew (Fr.refl _ _))) (fun g hg => by cases hg; simpa using hne')
  have B5 : BlkL (W.drew.setCell ⟨lp, 3 + a, none⟩ (.int .u64 (bits .andNot .u64 (u a : Int) (IntKind.u64.wrap (2 ^ b))))) lp side most (.slice (some ⟨lb, 0, none⟩) n cap) (clrU u k) := by
    rw [bit_andNot ux k5]
    refine Blk.cast (BW.drew.same (3 + a) _) ?_
    have e1 := HA.out
    have e2 := HB.out
    rcases (show a = 0 ∨ a = 1 ∨ a = 2 ∨ a = 3 by omega) with rfl | rfl | rfl | rfl <;> simp [clrU, e1, e2]
  have F5 : Fr [lp, lb] w (W.drew.setCell ⟨lp, 3 + a, none⟩ (.int .u64 (bits .andNot .u64 (u a : Int) (IntKind.u64.wrap (2 ^ b))))) := Fr.setIn (by simp) (Fr.drew (FW.mono (by simp)))
  have HD := Lib.hid (delete_any _ lb n cap i _ R5 hj n1000)
  clear R5
  go_wp2_with fail
  refine HD.out.mono ?_
  rintro e w6 ⟨rfl, R6, F6⟩
  have B6 := Blk.via F6 (by simpa using hne) B5
  have b6 := B6.frozen
  have d6 := B6.cell
  have l6 := B6.lt
  clear hf x c2
  go_wp2_with fail
  go_ret2
  rw [delF_upd] at R6
  refine ⟨by rw [HK.out]; rfl, ?_, .slice (some ⟨lb, 0, none⟩) (n - 1) cap, clrU u k, rfl, HX.out.del hj HK.out rfl ((B6.same 2 _).cast rfl) (R6.via (Fr.setIn (S := [lp]) List.mem_cons_self (Fr.refl _ _)) (fun g hg => by cases hg; simpa using hne'))⟩
  exact Fr.setIn (by simp) ((F5.mono (by simp [Value.ownBlock])).trans (F6.mono (by simp [Value.ownBlock])))
end Go.Proofs.Ytkimldeagndgjaa
