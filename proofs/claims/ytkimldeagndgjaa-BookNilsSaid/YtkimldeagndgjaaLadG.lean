/- The ladder: Put adds to a level, or says that it runs over. -/
import Derived.Test.YtkimldeagndgjaaLadF
namespace Go.Proofs.Ytkimldeagndgjaa
set_option linter.unusedVariables false
set_option linter.unusedSimpArgs false
open Go.RowKit

def updF (f : Nat → Lvl) (i : Nat) (x : Lvl) : Nat → Lvl := fun j => if j = i then x else f j
theorem lvl_set {n i0 j0 : Nat} {cur : Array Value} {f f' : Nat → Lvl} {z : Int} (hc : ∀ i j, i < n → j < 4 → cur[i * 4 + j]? = some (lvC f i j)) (hj : j0 < 4) (hf : ∀ i j, i < n → j < 4 → lvC f' i j = if i = i0 ∧ j = j0 then .int .i64 z else lvC f i j) :
    ∀ i j, i < n → j < 4 → (cur.setIfInBounds (i0 * 4 + j0) (.int .i64 z))[i * 4 + j]? = some (lvC f' i j) := by
  intro i j hi hj'
  have h0 := hc i j hi hj'
  rw [Array.getElem?_setIfInBounds, hf i j hi hj']
  by_cases c : i0 * 4 + j0 = i * 4 + j
  · have e1 : i = i0 := by omega
    have e2 : j = j0 := by omega
    have hl := (Array.getElem?_eq_some_iff.1 h0).1
    rw [if_pos c, if_pos (by omega), if_pos ⟨e1, e2⟩]
  · rw [if_neg c, if_neg (by rintro ⟨rfl, rfl⟩; exact c rfl)]
    exact h0
theorem RowL.set {w : World} {lb n cap : Nat} {f : Nat → Lvl} (h : RowL w (.slice (some ⟨lb, 0, none⟩) n cap) n f) {i0 j0 : Nat} {z : Int} (f' : Nat → Lvl) (hj : j0 < 4) (hf : ∀ i j, i < n → j < 4 → lvC f' i j = if i = i0 ∧ j = j0 then .int .i64 z else lvC f i j) :
    RowL (w.setCell ⟨lb, i0 * 4 + j0, none⟩ (.int .i64 z)) (.slice (some ⟨lb, 0, none⟩) n cap) n f' := by
  rcases h with ⟨e, _⟩ | ⟨lb', cap', cur, e, h1, B, h2, h3⟩
  · cases e
  · cases e
    exact .inr ⟨lb, cap, _, rfl, h1, B.same _ _, by simpa using h2, lvl_set h3 hj hf⟩
theorem updF_self {f : Nat → Lvl} {i : Nat} {x : Lvl} : updF f i x i = x := by simp [updF]
theorem updF_ne {f : Nat → Lvl} {i j : Nat} {x : Lvl} (h : j ≠ i) : updF f i x j = f j := by simp [updF, h]
theorem updF_all {f : Nat → Lvl} {i : Nat} {x : Lvl} {n : Nat} {Q : Lvl → Prop} (hx : Q x) (hf : ∀ j, j < n → Q (f j)) : ∀ j, j < n → Q (updF f i x j) := by
  intro j hj
  unfold updF
  split
  · exact hx
  · exact hf j hj
/-- A level with the same price and queue in a level's place. -/
theorem LadI.upd {w w' : World} {lp : Nat} {side most : Int} {v : Value} {u : Nat → Nat} {n : Nat} {f : Nat → Lvl} (h : LadI w lp side most v u n f) {i : Nat} (x : Lvl) (hp : x.price = (f i).price) (hq : x.queue = (f i).queue) (hx : 0 ≤ x.qty ∧ x.qty ≤ 9223372036854775807) (ho : 1 ≤ x.orders)
    (B : BlkL w' lp side most v u) (R : RowL w' v n (updF f i x)) : LadI w' lp side most v u n (updF f i x) := by
  have e1 : ∀ j, (updF f i x j).price = (f j).price := fun j => by
    unfold updF; split
    · rename_i c; rw [c, hp]
    · rfl
  have e2 : ∀ j, (updF f i x j).queue = (f j).queue := fun j => by
    unfold updF; split
    · rename_i c; rw [c, hq]
    · rfl
  refine ⟨⟨B, R, h.r.hside, h.r.hmost, h.r.hn, fun j hj => by rw [e1]; exact h.r.price j hj, fun a b c d => by rw [e1, e1]; exact h.r.sorted a b c d⟩, h.word, fun q hq => ?_, fun j hj => by rw [e2]; exact h.low j hj, updF_all (Q := fun x => 0 ≤ x.qty ∧ x.qty ≤ 9223372036854775807) hx h.qty, updF_all (Q := fun x => 1 ≤ x.orders) ho h.ord, fun a b ha hb e => ?_, h.own⟩
  · rw [h.bit q hq]
    exact ⟨fun ⟨j, a, b⟩ => ⟨j, a, by rw [e2]; exact b⟩, fun ⟨j, a, b⟩ => ⟨j, a, by rw [e2] at b; exact b⟩⟩
  · rw [e2, e2] at e
    exact h.inj a b ha hb e

theorem LadI.lts {w : World} {lp : Nat} {side most : Int} {v : Value} {u : Nat → Nat} {n : Nat} {f : Nat → Lvl} (h : LadI w lp side most v u n f) : ∀ g, v.ownBlock = some g → g < w.heap.size := fun g hg => by
  rcases h.r.r with ⟨e, _⟩ | ⟨lb, cap', cur, e, _, B, _⟩
  · rw [e] at hg; cases hg
  · rw [e] at hg; cases hg; exact B.lt

set_option maxHeartbeats 1000000 in
theorem put_more (w : World) (lp : Nat) (side most : Int) (v : Value) (u : Nat → Nat) (n : Nat) (f : Nat → Lvl) (h : LadI w lp side most v u n f) (j : Nat) (hj : j < n) (q : Int) (hq : 1 ≤ q ∧ q ≤ 9223372036854775807) (hsum : (f j).qty + q ≤ 9223372036854775807) (hord : (f j).orders < 1000000) :
    Calls Try.prog 87 #[.pointer (some ⟨lp, 0, none⟩), .int .i64 (f j).price, .int .i64 q] w fun e w' => e = .returned (.tuple #[.int .i64 (f j).queue, .int .i64 0]) ∧ Fr v.ownBlock.toList w w' ∧
      LadI w' lp side most v u n (updF f j ⟨(f j).price, (f j).qty + q, (f j).orders + 1, (f j).queue⟩) := by
  have HP := Lib.hid (h.r.find (f j).price (h.r.in63 j hj))
  have p1 := (h.r.price j hj).1
  have q1 := hq.1
  have y1 := h.qty j hj
  have o1 := h.ord j hj
  have hv := h.own
  have HA := Lib.hid (fun w => add_in w (f j).qty q ⟨by omega, y1.2⟩ ⟨by omega, hq.2⟩ ⟨by omega, hsum⟩)
  have HX := Lib.hid h
  have HVL := Lib.hid hv
  have HS := Lib.hid hsum
  clear h hv hsum hq
  go_enter Try.func87, Try.ntmps87
  go_wp2_with fail
  refine HP.out.mono ?_
  rintro e w1 ⟨i, rfl, F1, hpl⟩
  obtain ⟨rfl, hb⟩ := placed_yes hpl HX.out.r.sorted hj rfl
  rw [hb]
  have H1 := HX.out.r.fr F1 (by simp) (by simp)
  have c : w1.cell? ⟨lp, 2, none⟩ = some v := (H1.b.cell 2).trans rfl
  obtain ⟨lb, cap, cur, rfl, hnc, B, m0, m1, m2, m3⟩ := H1.lv hj
  have i1 : (i : Int) < (n : Int) := by omega
  have fb := B.frozen
  have lB := B.lt
  clear hb hpl
  go_wp2_with fail
  refine (HA.out _).mono ?_
  rintro e w2 ⟨rfl, rfl⟩
  go_wp2_with fail
  go_ret2
  have hsum' := HS.out
  refine ⟨rfl, ?_, HX.out.upd _ rfl rfl (by dsimp only; omega) (by dsimp only; omega) ?_ ?_⟩
  · exact Fr.setIn (by simp [Value.ownBlock]) (Fr.setIn (by simp [Value.ownBlock]) (F1.mono (by simp)))
  · have hne : lp ≠ lb := fun e => HVL.out (by rw [e]; rfl)
    exact ((H1.b.off hne).off hne)
  · exact (H1.r.set (updF f i ⟨(f i).price, (f i).qty + q, (f i).orders, (f i).queue⟩) (j0 := 1) (by omega) (fun a b ha hb => by
      unfold updF lvC
      by_cases c : a = i
      · subst c
        rcases (show b = 0 ∨ b = 1 ∨ b = 2 ∨ b = 3 by omega) with rfl | rfl | rfl | rfl <;> simp
      · simp [c])).set _ (j0 := 2) (by omega) (fun a b ha hb => by
      unfold updF lvC
      by_cases c : a = i
      · subst c
        rcases (show b = 0 ∨ b = 1 ∨ b = 2 ∨ b = 3 by omega) with rfl | rfl | rfl | rfl <;> simp
      · simp [c])

theorem put_over (w : World) (lp : Nat) (side most : Int) (v : Value) (u : Nat → Nat) (n : Nat) (f : Nat → Lvl) (h : LadI w lp side most v u n f) (j : Nat) (hj : j < n) (q : Int) (hq : 1 ≤ q ∧ q ≤ 9223372036854775807) (hsum : ¬ (f j).qty + q ≤ 9223372036854775807) :
    Calls Try.prog 87 #[.pointer (some ⟨lp, 0, none⟩), .int .i64 (f j).price, .int .i64 q] w fun e w' => e = .returned (.tuple #[.int .i64 0, .int .i64 2]) ∧ Fr [] w w' := by
  have HP := Lib.hid (h.r.find (f j).price (h.r.in63 j hj))
  have p1 := (h.r.price j hj).1
  have q1 := hq.1
  have y1 := h.qty j hj
  have HA := Lib.hid (fun w => add_out w (f j).qty q ⟨by omega, y1.2⟩ ⟨by omega, hq.2⟩ (fun c => hsum c.2))
  have HX := Lib.hid h
  clear h hsum hq
  go_enter Try.func87, Try.ntmps87
  go_wp2_with fail
  refine HP.out.mono ?_
  rintro e w1 ⟨i, rfl, F1, hpl⟩
  obtain ⟨rfl, hb⟩ := placed_yes hpl HX.out.r.sorted hj rfl
  rw [hb]
  have H1 := HX.out.r.fr F1 (by simp) (by simp)
  have c : w1.cell? ⟨lp, 2, none⟩ = some v := (H1.b.cell 2).trans rfl
  obtain ⟨lb, cap, cur, rfl, hnc, B, m0, m1, m2, m3⟩ := H1.lv hj
  have i1 : (i : Int) < (n : Int) := by omega
  have lB := B.lt
  clear hb hpl
  go_wp2_with fail
  refine (HA.out _).mono ?_
  rintro e w2 ⟨rfl, rfl⟩
  go_wp2_with fail
  go_ret2
  exact ⟨rfl, F1⟩
end Go.Proofs.Ytkimldeagndgjaa
