/- The ladder: slices.Insert at its levels. -/
import Derived.Test.YtkimldeagndgjaaLadC
import Derived.Test.YtkimldeagndgjaaCopy
import Derived.Test.YtkimldeagndgjaaLadV
namespace Go.Proofs.Ytkimldeagndgjaa
set_option linter.unusedVariables false
set_option linter.unusedSimpArgs false
open Go.RowKit

theorem info_lvl : (Try.prog.info? 159).map (fun i => (i.zero, i.size, i.bytes)) = some (some (.agg #[.int .i64 0, .int .i64 0, .int .i64 0, .int .i64 0]), 4, 32) := by kernel_rfl

def insF (f : Nat → Lvl) (i : Nat) (x : Lvl) : Nat → Lvl := fun j => if j < i then f j else if j = i then x else f (j - 1)
def lvL (x : Lvl) : List Value := [.int .i64 x.price, .int .i64 x.qty, .int .i64 x.orders, .int .i64 x.queue]

theorem splice_get {α : Type} (L cs : List α) (off j : Nat) (h : off + cs.length ≤ L.length) : (L.take off ++ cs ++ L.drop (off + cs.length))[j]? = if off ≤ j ∧ j < off + cs.length then cs[j - off]? else L[j]? := by
  have ht : (L.take off).length = off := by rw [List.length_take]; omega
  rw [List.append_assoc]
  by_cases c1 : j < off
  · rw [List.getElem?_append_left (by omega), List.getElem?_take_of_lt c1, if_neg (by omega)]
  · rw [List.getElem?_append_right (by omega), ht]
    by_cases c2 : j < off + cs.length
    · rw [List.getElem?_append_left (by omega), if_pos (by omega)]
    · rw [List.getElem?_append_right (by omega), List.getElem?_drop, if_neg (by omega)]
      congr 1
      omega
theorem splice_len {α : Type} (L cs : List α) (off : Nat) (h : off + cs.length ≤ L.length) : (L.take off ++ cs ++ L.drop (off + cs.length)).length = L.length := by
  simp only [List.length_append, List.length_take, List.length_drop]
  omega
theorem seg_cells {w : World} {lb : Nat} {t : TypeId} {cur : Array Value} (B : Blk w lb t cur) {o m : Nat} : ∀ j u, ((cur.toList.drop o).take m)[j]? = some u → w.cell? ((⟨lb, o, none⟩ : Addr).add j) = some u := by
  intro j u hj
  have hjl := (List.getElem?_eq_some_iff.1 hj).1
  rw [List.length_take] at hjl
  have e : (⟨lb, o, none⟩ : Addr).add j = ⟨lb, o + j, none⟩ := by unfold Addr.add; split <;> simp_all
  rw [List.getElem?_take_of_lt (by omega), List.getElem?_drop] at hj
  rw [e, B.cell (o + j)]
  simpa using hj
theorem seg_one {n i : Nat} {cur : Array Value} {f : Nat → Lvl} (hc : ∀ i j, i < n → j < 4 → cur[i * 4 + j]? = some (lvC f i j)) (hs : n * 4 ≤ cur.size) : ∀ u ∈ ((cur.toList.drop (i * 4)).take ((n - i) * 4)), u.oneCell' = true := by
  intro u hu
  obtain ⟨j, hj⟩ := List.getElem?_of_mem hu
  have hjl := (List.getElem?_eq_some_iff.1 hj).1
  rw [List.length_take, List.length_drop] at hjl
  rw [List.getElem?_take_of_lt (by omega), List.getElem?_drop] at hj
  have h1 := hc ((i * 4 + j) / 4) ((i * 4 + j) % 4) (by omega) (Nat.mod_lt _ (by omega))
  rw [show (i * 4 + j) / 4 * 4 + (i * 4 + j) % 4 = i * 4 + j by omega] at h1
  have h2 : cur[i * 4 + j]? = some u := by simpa using hj
  rw [h2] at h1
  cases h1
  rfl
theorem fr_new1 {S : List Nat} {w w1 w2 w4 : World} {g : Nat} (hg : w.heap.size ≤ g) (_h : True) (F1 : Fr [] w w1) (F2 : Fr [g] w1 w2) (F4 : Fr [g] w2.drew w4) : Fr S w w4 := by
  have h1 : Fr [] w w4 := ⟨F4.os.trans (F2.os.trans F1.os), F4.tape.trans (F2.tape.trans F1.tape), F4.output.trans (F2.output.trans F1.output), Nat.le_trans F1.size (Nat.le_trans F2.size F4.size), fun k hk _ =>
    (F4.block k (Nat.lt_of_lt_of_le hk (Nat.le_trans F1.size F2.size)) (by simp; omega)).trans ((F2.block k (Nat.lt_of_lt_of_le hk F1.size) (by simp; omega)).trans (F1.block k hk (by simp)))⟩
  exact h1.mono (by simp)
theorem lvL_cells {w : World} {gx : Nat} {y : Lvl} (hy : Blk w gx 159 (lvL y).toArray) : ∀ j u, (lvL y)[j]? = some u → w.cell? ((⟨gx, 0, none⟩ : Addr).add j) = some u := by
  intro j u hj
  have e : (⟨gx, 0, none⟩ : Addr).add j = ⟨gx, j, none⟩ := by unfold Addr.add; split <;> simp_all
  rw [e, hy.cell j]
  simpa using hj
theorem wpList_appL {w : World} {ops : Array Oper} {rest : List Oper} {o : Oper} {a : Act} {Q : Exit → Act → World → Prop} (hgd : o.guard = none) (s x : Operand)
    (ho : o.op = .call { callee := .builtin .append, args := #[s, x], argTypes := #[200, 200] })
    (v : Value) (n : Nat) (f : Nat → Lvl) (hv : a.eval s = v) (hr : RowL w v n f) (gx c : Nat) (y : Lvl) (hx : a.eval x = .slice (some ⟨gx, 0, none⟩) 1 c) (hy : Blk w gx 159 (lvL y).toArray) (hb : n ≤ 1000)
    (h : ∀ v' w', RowL w' v' (n + 1) (insF f n y) → Fr v.ownBlock.toList w w' → (v'.ownBlock = v.ownBlock ∨ v'.ownBlock = some w.heap.size) → wpList Try.prog ops Q rest (a.put o.dst v') w') :
    wpList Try.prog ops Q (o :: rest) a w := by
  obtain ⟨ii, hii, hz0, hz1, hz2⟩ := info_parts info_lvl
  have hv' : (v = .slice none 0 0 ∧ n = 0) ∨ ∃ g cap cur, v = .slice (some ⟨g, 0, none⟩) n cap ∧ n ≤ cap ∧ Blk w g 159 cur ∧ cur.size = cap * 4 := by
    rcases hr with h | ⟨lb, cap, cur, h1, h2, h3, h4, _⟩
    · exact .inl h
    · exact .inr ⟨lb, cap, cur, h1, h2, h3, h4⟩
  obtain ⟨g', cap', new, w', hrun, hge, B', hsz', hold, hnew, F, hat⟩ := run_appS (P := Try.prog) w 200 o.type 159 ii _ 4 Try.underlying200 hii hz0 hz1 rfl (by omega) (by omega) v n hv' ⟨gx, 0, none⟩ 1 c (lvL y) rfl
    (fun j u hj => by
      have e : (⟨gx, 0, none⟩ : Addr).add j = ⟨gx, j, none⟩ := by unfold Addr.add; split <;> simp_all
      rw [e, hy.cell j]; simpa using hj) (by simp [lvL, Value.oneCell']) (by omega) (by omega)
  refine wpList_plain hgd fun Kq hKq => ?_
  unfold Oper.wp execOp
  simp only [ho, resolve, invoke, builtin, Sem.run_bind, Sem.run_pure, Result.andThen_ok, List.map_toArray, List.map_cons, List.map_nil, hv, hx, hrun]
  refine hKq _ _ (h _ _ (.inr ⟨g', cap', new, rfl, hge, B', hsz', fun i j hi hj => ?_⟩) F ?_)
  · by_cases c : i < n
    · rcases hr with ⟨_, e⟩ | ⟨lb, cap, cur, rfl, h2, h3, h4, h5⟩
      · omega
      · rw [hold lb cap rfl (i * 4 + j) (by omega), h3.cell, h5 i j c hj]
        simp [lvC, insF, c]
    · obtain rfl : i = n := by omega
      rw [hnew j (by omega)]
      rcases (show j = 0 ∨ j = 1 ∨ j = 2 ∨ j = 3 by omega) with rfl | rfl | rfl | rfl <;> simp [lvL, lvC, insF]
  · rcases hat with h | h
    · exact .inl h.symm
    · exact .inr (by rw [h]; rfl)

set_option maxHeartbeats 2000000 in
set_option maxRecDepth 20000 in
theorem insert_any (w : World) (v : Value) (n i : Nat) (f : Nat → Lvl) (hr : RowL w v n f) (hi : i ≤ n) (hn : n ≤ 1000) (gx : Nat) (y : Lvl) (hy : Blk w gx 159 (lvL y).toArray) (hne : ∀ g, v.ownBlock = some g → g ≠ gx) :
    Calls Try.prog 134 #[v, .int .i64 i, .slice (some ⟨gx, 0, none⟩) 1 1] w fun e w' => ∃ v', e = .returned v' ∧ RowL w' v' (n + 1) (insF f i y) ∧ Fr v.ownBlock.toList w w' ∧ (v'.ownBlock = v.ownBlock ∨ ∃ g, v'.ownBlock = some g ∧ w.heap.size ≤ g) := by
  obtain ⟨A, cap, hv⟩ : ∃ A cap, v = .slice A n cap := by
    rcases hr with ⟨rfl, rfl⟩ | ⟨lb, cap, cur, rfl, _⟩
    · exact ⟨_, _, rfl⟩
    · exact ⟨_, _, rfl⟩
  have hnc : n ≤ cap := by
    rcases hr with ⟨h, rfl⟩ | ⟨lb, cap', cur, h, h2, _⟩
    · omega
    · rw [hv] at h; injection h; omega
  have HV := Lib.hid hv
  have HR := Lib.hid hr
  have HY := Lib.hid hy
  have n0 : (n : Int) ≤ 1000 := by omega
  have i0 : (0 : Int) ≤ (i : Int) := by omega
  have i1 : (i : Int) ≤ (n : Int) := by omega
  subst hv
  clear hr hy
  by_cases hin : i = n
  · subst hin
    by_cases hci : cap = i
    · subst hci
      go_enter Try.func134, Try.ntmps134
      go_wp2_with (first
        | (at_builtin
           refine wpList_appL rfl (.tmp 23) (.tmp 24) rfl _ _ f rfl HR.out gx 1 y rfl HY.out (by omega) ?_
           intro v' w1 hr1 F1 hat))
      go_ret
      refine ⟨v', rfl, hr1, F1, ?_⟩
      rcases hat with h | h
      · exact .inl h
      · exact .inr ⟨_, h, Nat.le_refl _⟩
    · have hci' : ¬ cap = i := hci
      go_enter Try.func134, Try.ntmps134
      go_wp2_with (first
        | (at_builtin
           refine wpList_appL rfl (.tmp 23) (.tmp 24) rfl _ _ f rfl HR.out gx 1 y rfl HY.out (by omega) ?_
           intro v' w1 hr1 F1 hat))
      go_ret
      refine ⟨v', rfl, hr1, F1, ?_⟩
      rcases hat with h | h
      · exact .inl h
      · exact .inr ⟨_, h, Nat.le_refl _⟩
  · have hlt : i < n := by omega
    have i2 : (i : Int) < (n : Int) := by omega
    have ine : ((i : Int) == (n : Int)) = false := by simp; omega
    obtain ⟨h0, _⟩ | ⟨lb, cap', cur, e, _, B, hcs, hcur⟩ := HR.out
    · injection h0; omega
    injection e with e1 _ e2
    subst e1; subst e2
    obtain ⟨ii, hii, hz0, hz1, hz2⟩ := info_parts info_lvl
    have hsz : (Try.prog.info? 159).map (·.size) = some 4 := by rw [hii]; simp [hz1]
    have HII := Lib.hid hii
    have HZ := Lib.hid (And.intro hz0 (And.intro hz1 hz2))
    have HSZ := Lib.hid hsz
    have HCUR := Lib.hid hcur
    have HB := Lib.hid B
    have hcs' := Lib.hid hcs
    have HNE := Lib.hid (hne lb rfl)
    have c1 : ¬ cap = i := by omega
    have c2 : i ≤ cap := by omega
    clear hii hz0 hz1 hz2 hsz hcur B hcs hne HR HV
    by_cases hroom : cap < n + 1
    · have r1 : (cap : Int) < (n : Int) + 1 := by omega
      go_enter Try.func134, Try.ntmps134
      go_wp2_with (first
        | (at_builtin
           refine wpList_appZ w rfl (.tmp 34) (.tmp 39) 200 3 rfl 159 ii _ 4 .i64 .i64 Try.underlying200 Try.underlying3 HII.out HZ.out.1 HZ.out.2.1 rfl (by omega) (by have := HZ.out.2.2; omega) lb i cap (n + 1 - i) rfl ?hx cur 159 HB.out hcs'.out (by omega) (by omega) (by omega) (by omega) (n + 1) (by omega) ?_
           case hx => (show Value.int .i64 ((n : Int) + 1 - (i : Int)) = .int .i64 ((n + 1 - i : Nat) : Int); rw [show ((n + 1 - i : Nat) : Int) = (n : Int) + 1 - (i : Int) by omega])
           intro w1 cap1 new hge1 B1 hs1 hold1 F1
           have d1 : ¬ cap1 = i := by omega
           have d2 : i ≤ n + 1 := by omega
           have d3 : (i : Int) ≤ (n : Int) + 1 := by omega)
        | (refine wpList_copyS w1 rfl (.tmp 43) (.tmp 44) _ _ rfl 159 4 Try.underlying200 HSZ.out w.heap.size (i * 4) (n + 1 - i) (cap1 - i) ⟨gx, 0, none⟩ 1 1 ?hd rfl new 159 B1 (lvL y) ?hn ?hs ?hf ?h1 ?_
           case hd => rfl
           case hn => (have e : Nat.min 1 (n + 1 - i) = 1 := Nat.min_eq_left (by omega)
                       rw [e]
                       rfl)
           case hs => exact lvL_cells (Blk.via F1 (by simp) HY.out)
           case hf => (show i * 4 + 4 ≤ new.size; omega)
           case h1 => simp [lvL, Value.oneCell']
           intro w2 B2 F2))
      have hB2 := Blk.via (F1.trans (S := []) (Fr.refl _ _)) (by simp) HB.out
      have hw : w.heap.size < w1.heap.size := B1.lt
      have hlw := HB.out.lt
      have B3 : Blk w2 lb 159 cur := Blk.via F2 (by simp; omega) (Blk.via F1 (by simp) HB.out)
      have d4 : ¬ cap1 = i + 1 := by omega
      have d5 : i + 1 ≤ n + 1 := by omega
      have d6 : (i : Int) + 1 ≤ (n : Int) + 1 := by omega
      have d7 : (0 : Int) ≤ (i : Int) + 1 := by omega
      clear hB2
      refine u_region (S := fun _ => True) 8 (by kernel_rfl) (by kernel_rfl) (by kernel_rfl) (by kernel_rfl) (by kernel_rfl) trivial ?_
      (refine u_take 0 (v := ?_) rfl rfl (by kernel_rfl) (by kernel_rfl) (fun _ _ _ h => h) (Or.inl ⟨by rfl, ?_⟩) ?_; rotate_left; (focus (intro wz hSw; (try dsimp only at hSw); go_simp; (try with_reducible rfl))); (try simp only [Act.put, List.getElem_toArray, List.getElem_cons_succ, List.getElem_cons_zero, List.setIfInBounds_toArray, List.set_cons_zero, List.set_cons_succ]))
      (refine u_take 1 (v := ?_) rfl rfl (by kernel_rfl) (by kernel_rfl) (fun _ _ _ h => h) (Or.inl ⟨by rfl, ?_⟩) ?_; rotate_left; (focus (intro wz hSw; (try dsimp only at hSw); go_simp; (try with_reducible rfl))); (try simp only [Act.put, List.getElem_toArray, List.getElem_cons_succ, List.getElem_cons_zero, List.setIfInBounds_toArray, List.set_cons_zero, List.set_cons_succ]))
      (refine u_take 2 (v := ?_) rfl rfl (by kernel_rfl) (by kernel_rfl) (fun _ _ _ h => h) (Or.inl ⟨by rfl, ?_⟩) ?_; rotate_left; (focus (intro wz hSw; (try dsimp only at hSw); go_simp; (try with_reducible rfl))); (try simp only [Act.put, List.getElem_toArray, List.getElem_cons_succ, List.getElem_cons_zero, List.setIfInBounds_toArray, List.set_cons_zero, List.set_cons_succ]))
      (refine u_take 3 (v := .int .i64 ((i : Int) + 1)) rfl rfl (by kernel_rfl) (by kernel_rfl) (fun _ _ _ h => h) (Or.inl ⟨by rfl, ?_⟩) ?_; (focus (intro wz hSw; go_simp; (try rw [Go.IntWalk.i64_in _ (by omega)]))); (try simp only [Act.put, List.getElem_toArray, List.getElem_cons_succ, List.getElem_cons_zero, List.setIfInBounds_toArray, List.set_cons_zero, List.set_cons_succ]))
      (refine u_take 4 (v := ?_) rfl rfl (by kernel_rfl) (by kernel_rfl) (fun _ _ _ h => h) (Or.inl ⟨by rfl, ?_⟩) ?_; rotate_left; (focus (intro wz hSw; (try dsimp only at hSw); go_simp; (try with_reducible rfl))); (try simp only [Act.put, List.getElem_toArray, List.getElem_cons_succ, List.getElem_cons_zero, List.setIfInBounds_toArray, List.set_cons_zero, List.set_cons_succ]))
      (refine u_take 5 (v := ?_) rfl rfl (by kernel_rfl) (by kernel_rfl) (fun _ _ _ h => h) (Or.inl ⟨by rfl, ?_⟩) ?_; rotate_left; (focus (intro wz hSw; (try dsimp only at hSw); go_simp; (try with_reducible rfl))); (try simp only [Act.put, List.getElem_toArray, List.getElem_cons_succ, List.getElem_cons_zero, List.setIfInBounds_toArray, List.set_cons_zero, List.set_cons_succ]))
      (refine u_take 6 (v := ?_) rfl rfl (by kernel_rfl) (by kernel_rfl) (fun _ _ _ h => h) (Or.inl ⟨by rfl, ?_⟩) ?_; rotate_left; (focus (intro wz hSw; (try dsimp only at hSw); go_simp; (try with_reducible rfl))); (try simp only [Act.put, List.getElem_toArray, List.getElem_cons_succ, List.getElem_cons_zero, List.setIfInBounds_toArray, List.set_cons_zero, List.set_cons_succ]))
      (refine u_take 7 (v := ?_) rfl rfl (by kernel_rfl) (by kernel_rfl) (fun _ _ _ h => h) (Or.inl ⟨by rfl, ?_⟩) ?_; rotate_left; (focus (intro wz hSw; (try dsimp only at hSw); go_simp; (try with_reducible rfl))); (try simp only [Act.put, List.getElem_toArray, List.getElem_cons_succ, List.getElem_cons_zero, List.setIfInBounds_toArray, List.set_cons_zero, List.set_cons_succ]))
      refine u_last (by kernel_rfl) rfl (by kernel_rfl) ?_
      refine wpList_copyS _ rfl (.tmp 50) (.tmp 53) _ _ rfl 159 4 Try.underlying200 HSZ.out w.heap.size ((i + 1) * 4) (n - i) (cap1 - (i + 1)) ⟨lb, i * 4, none⟩ (n - i) (cap - i) ?hd ?hx _ 159 B2.drew ((cur.toList.drop (i * 4)).take ((n - i) * 4)) ?hn ?hs ?hf ?h1 ?_
      case hd => rfl
      case hx => rfl
      case hn => (rw [show Nat.min (n - i) (n - i) = n - i from Nat.min_self _, List.length_take, List.length_drop, Array.length_toList, hcs'.out]; omega)
      case hs => exact seg_cells B3.drew
      case hf => (simp only [List.size_toArray, List.length_append, List.length_take, List.length_drop, Array.length_toList, hcs'.out, hs1]; simp only [lvL, List.length_cons, List.length_nil]; omega)
      case h1 => exact seg_one HCUR.out (by rw [hcs'.out]; omega)
      intro w4 B4 F4
      go_wp2_with fail
      go_ret
      refine ⟨_, rfl, .inr ⟨w.heap.size, cap1, _, rfl, hge1, B4, ?_, fun a b ha hb => ?_⟩, ?_, .inr ⟨_, rfl, Nat.le_refl _⟩⟩
      · simp only [List.size_toArray, List.length_append, List.length_take, List.length_drop, Array.length_toList, hcs'.out, hs1, lvL, List.length_cons, List.length_nil]
        omega
      · have hcl : ((cur.toList.drop (i * 4)).take ((n - i) * 4)).length = (n - i) * 4 := by rw [List.length_take, List.length_drop, Array.length_toList, hcs'.out]; omega
        have hl4 : (lvL y).length = 4 := rfl
        have hX : (new.toList.take (i * 4) ++ lvL y ++ new.toList.drop (i * 4 + (lvL y).length)).length = new.size := by
          simp only [List.length_append, List.length_take, List.length_drop, Array.length_toList, hs1, hl4]
          omega
        rw [List.getElem?_toArray, splice_get _ _ _ _ (by rw [hX, hcl, hs1]; omega), hcl]
        by_cases c1 : i < a
        · rw [if_pos (by omega), List.getElem?_take_of_lt (by omega), List.getElem?_drop]
          have h1 := HCUR.out (a - 1) b (by omega) hb
          rw [show i * 4 + (a * 4 + b - (i + 1) * 4) = (a - 1) * 4 + b by omega]
          rw [Array.getElem?_toList, h1]
          have c2 : ¬ a < i := by omega
          have c3 : ¬ a = i := by omega
          simp [lvC, insF, c2, c3]
        · rw [if_neg (by omega), splice_get _ _ _ _ (by show i * 4 + 4 ≤ new.toList.length; rw [Array.length_toList, hs1]; omega), hl4]
          by_cases c2 : a = i
          · subst c2
            rw [if_pos (by omega), Nat.add_sub_cancel_left]
            rcases (show b = 0 ∨ b = 1 ∨ b = 2 ∨ b = 3 by omega) with rfl | rfl | rfl | rfl <;> simp [lvL, lvC, insF]
          · rw [if_neg (by omega), Array.getElem?_toList, hold1 _ (by omega), HCUR.out a b (by omega) hb]
            have c3 : a < i := by omega
            simp [lvC, insF, c3]
      · exact fr_new1 (by omega) (by simp [Value.ownBlock]) F1 F2 F4
    · have r1 : ¬ (cap : Int) < (n : Int) + 1 := by omega
      have d4 : ¬ cap = i + 1 := by omega
      have d5 : i + 1 ≤ n + 1 := by omega
      have d6 : (i : Int) + 1 ≤ (n : Int) + 1 := by omega
      have d7 : (0 : Int) ≤ (i : Int) + 1 := by omega
      have d8 : (i : Int) ≤ (n : Int) + 1 := by omega
      have d9 : n + 1 ≤ cap := by omega
      have d10 : i ≤ n + 1 := by omega
      have hov := fun m c => overlaps_apart w gx lb ((i + 1) * 4) m c _ _ HY.out HB.out (fun e => HNE.out e.symm) (by rw [hcs'.out]; omega)
      go_enter Try.func134, Try.ntmps134
      go_wp2_with fail
      refine u_region (S := fun _ => True) 8 (by kernel_rfl) (by kernel_rfl) (by kernel_rfl) (by kernel_rfl) (by kernel_rfl) trivial ?_
      (refine u_take 0 (v := ?_) rfl rfl (by kernel_rfl) (by kernel_rfl) (fun _ _ _ h => h) (Or.inl ⟨by rfl, ?_⟩) ?_; rotate_left; (focus (intro wz hSw; (try dsimp only at hSw); go_simp; (try with_reducible rfl))); (try simp only [Act.put, List.getElem_toArray, List.getElem_cons_succ, List.getElem_cons_zero, List.setIfInBounds_toArray, List.set_cons_zero, List.set_cons_succ]))
      (refine u_take 1 (v := ?_) rfl rfl (by kernel_rfl) (by kernel_rfl) (fun _ _ _ h => h) (Or.inl ⟨by rfl, ?_⟩) ?_; rotate_left; (focus (intro wz hSw; (try dsimp only at hSw); go_simp; (try with_reducible rfl))); (try simp only [Act.put, List.getElem_toArray, List.getElem_cons_succ, List.getElem_cons_zero, List.setIfInBounds_toArray, List.set_cons_zero, List.set_cons_succ]))
      (refine u_take 2 (v := ?_) rfl rfl (by kernel_rfl) (by kernel_rfl) (fun _ _ _ h => h) (Or.inl ⟨by rfl, ?_⟩) ?_; rotate_left; (focus (intro wz hSw; (try dsimp only at hSw); go_simp; (try with_reducible rfl))); (try simp only [Act.put, List.getElem_toArray, List.getElem_cons_succ, List.getElem_cons_zero, List.setIfInBounds_toArray, List.set_cons_zero, List.set_cons_succ]))
      (refine u_take 3 (v := .int .i64 ((i : Int) + 1)) rfl rfl (by kernel_rfl) (by kernel_rfl) (fun _ _ _ h => h) (Or.inl ⟨by rfl, ?_⟩) ?_; (focus (intro wz hSw; go_simp; (try rw [Go.IntWalk.i64_in _ (by omega)]))); (try simp only [Act.put, List.getElem_toArray, List.getElem_cons_succ, List.getElem_cons_zero, List.setIfInBounds_toArray, List.set_cons_zero, List.set_cons_succ]))
      (refine u_take 4 (v := ?_) rfl rfl (by kernel_rfl) (by kernel_rfl) (fun _ _ _ h => h) (Or.inl ⟨by rfl, ?_⟩) ?_; rotate_left; (focus (intro wz hSw; (try dsimp only at hSw); go_simp; (try with_reducible rfl))); (try simp only [Act.put, List.getElem_toArray, List.getElem_cons_succ, List.getElem_cons_zero, List.setIfInBounds_toArray, List.set_cons_zero, List.set_cons_succ]))
      (refine u_take 5 (v := ?_) rfl rfl (by kernel_rfl) (by kernel_rfl) (fun _ _ _ h => h) (Or.inl ⟨by rfl, ?_⟩) ?_; rotate_left; (focus (intro wz hSw; (try dsimp only at hSw); go_simp; (try with_reducible rfl))); (try simp only [Act.put, List.getElem_toArray, List.getElem_cons_succ, List.getElem_cons_zero, List.setIfInBounds_toArray, List.set_cons_zero, List.set_cons_succ]))
      (refine u_take 6 (v := ?_) rfl rfl (by kernel_rfl) (by kernel_rfl) (fun _ _ _ h => h) (Or.inl ⟨by rfl, ?_⟩) ?_; rotate_left; (focus (intro wz hSw; (try dsimp only at hSw); go_simp; (try with_reducible rfl))); (try simp only [Act.put, List.getElem_toArray, List.getElem_cons_succ, List.getElem_cons_zero, List.setIfInBounds_toArray, List.set_cons_zero, List.set_cons_succ]))
      (refine u_take 7 (v := ?_) rfl rfl (by kernel_rfl) (by kernel_rfl) (fun _ _ _ h => h) (Or.inl ⟨by rfl, ?_⟩) ?_; rotate_left; (focus (intro wz hSw; (try dsimp only at hSw); go_simp; (try with_reducible rfl))); (try simp only [Act.put, List.getElem_toArray, List.getElem_cons_succ, List.getElem_cons_zero, List.setIfInBounds_toArray, List.set_cons_zero, List.set_cons_succ]))
      refine u_last (by kernel_rfl) rfl (by kernel_rfl) ?_
      refine wpList_copyS _ rfl (.tmp 73) (.tmp 76) _ _ rfl 159 4 Try.underlying200 HSZ.out lb ((i + 1) * 4) (n - i) (cap - (i + 1)) ⟨lb, i * 4, none⟩ (n + 1 - i) (cap - i) ?hd ?hx _ 159 HB.out.drew ((cur.toList.drop (i * 4)).take ((n - i) * 4)) ?hn ?hs ?hf ?h1 ?_
      case hd => rfl
      case hx => rfl
      case hn => (rw [show Nat.min (n + 1 - i) (n - i) = n - i from Nat.min_eq_right (by omega), List.length_take, List.length_drop, Array.length_toList, hcs'.out]; omega)
      case hs => exact seg_cells HB.out.drew
      case hf => (simp only [List.length_take, List.length_drop, Array.length_toList, hcs'.out]; omega)
      case h1 => exact seg_one HCUR.out (by rw [hcs'.out]; omega)
      intro w4 B4 F4
      have hcl : ((cur.toList.drop (i * 4)).take ((n - i) * 4)).length = (n - i) * 4 := by rw [List.length_take, List.length_drop, Array.length_toList, hcs'.out]; omega
      have hXl : (cur.toList.take ((i + 1) * 4) ++ (cur.toList.drop (i * 4)).take ((n - i) * 4) ++ cur.toList.drop ((i + 1) * 4 + ((cur.toList.drop (i * 4)).take ((n - i) * 4)).length)).length = cap * 4 := by
        rw [hcl]
        simp only [List.length_append, List.length_take, List.length_drop, Array.length_toList, hcs'.out]
        omega
      have Y4 : Blk w4 gx 159 (lvL y).toArray := Blk.via F4 (by simpa using fun e => HNE.out e.symm) HY.out.drew
      go_wp2_with (first
        | (refine wpList_copyS w4 rfl (.tmp 80) (.tmp 81) _ _ rfl 159 4 Try.underlying200 HSZ.out lb (i * 4) (n + 1 - i) (cap - i) ⟨gx, 0, none⟩ 1 1 ?hd rfl _ 159 B4 (lvL y) ?hn ?hs ?hf ?h1 ?_
           case hd => rfl
           case hn => (have e : Nat.min 1 (n + 1 - i) = 1 := Nat.min_eq_left (by omega)
                       rw [e]
                       rfl)
           case hs => exact lvL_cells Y4
           case hf => (rw [List.size_toArray, hXl]; show i * 4 + 4 ≤ cap * 4; omega)
           case h1 => simp [lvL, Value.oneCell']
           intro w5 B5 F5))
      go_ret
      refine ⟨_, rfl, .inr ⟨lb, cap, _, rfl, d9, B5, ?_, fun a b ha hb => ?_⟩, ?_, .inl rfl⟩
      · rw [List.size_toArray, splice_len _ _ _ (by show i * 4 + 4 ≤ _; rw [hXl]; omega), hXl]
      · have hl4 : (lvL y).length = 4 := rfl
        rw [List.getElem?_toArray, splice_get _ _ _ _ (by show i * 4 + 4 ≤ _; rw [hXl]; omega), hl4]
        by_cases c2 : a = i
        · subst c2
          rw [if_pos (by omega), Nat.add_sub_cancel_left]
          rcases (show b = 0 ∨ b = 1 ∨ b = 2 ∨ b = 3 by omega) with rfl | rfl | rfl | rfl <;> simp [lvL, lvC, insF]
        · rw [if_neg (by omega), splice_get _ _ _ _ (by rw [hcl, Array.length_toList, hcs'.out]; omega), hcl]
          by_cases c1 : i < a
          · rw [if_pos (by omega), List.getElem?_take_of_lt (by omega), List.getElem?_drop]
            have h1 := HCUR.out (a - 1) b (by omega) hb
            rw [show i * 4 + (a * 4 + b - (i + 1) * 4) = (a - 1) * 4 + b by omega]
            rw [Array.getElem?_toList, h1]
            have c3 : ¬ a < i := by omega
            simp [lvC, insF, c2, c3]
          · rw [if_neg (by omega), Array.getElem?_toList, HCUR.out a b (by omega) hb]
            have c3 : a < i := by omega
            simp [lvC, insF, c3]
      · exact (Fr.drew (Fr.refl [lb] w)).trans (F4.trans F5)
end Go.Proofs.Ytkimldeagndgjaa
