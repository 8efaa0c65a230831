/- Both queues, the program's and the document's, side by side. -/
import Derived.Test.YtgddmkgmpibpgaaFifoG
namespace Go.Proofs.Ytgddmkgmpibpgaa
set_option linter.unusedVariables false
set_option linter.unusedSimpArgs false
open Go.RowKit

theorem AbsQ.bound {w : World} {bq bn be N K : Nat} {L : Nat → List Nat} (h : AbsQ w bq bn be N K L) : N ≤ 500 ∧ K ≤ 400 ∧ (∀ i, i < K → (L i).length ≤ 500) := by
  obtain ⟨nd, en, r, v⟩ := h
  exact ⟨r.N2, r.K2, fun i hi => Nat.le_trans (v.len hi) r.N2⟩

theorem getElem_unique {l : List Nat} (h : l.Nodup) {j k x : Nat} (h1 : l[j]? = some x) (h2 : l[k]? = some x) : j = k := by
  have hj := (List.getElem?_eq_some_iff.1 h1).1
  exact (List.getElem?_inj hj h).1 (h1.trans h2.symm)

theorem AbsQ.unique {w : World} {bq bn be N K : Nat} {L : Nat → List Nat} (h : AbsQ w bq bn be N K L) {i j a b x : Nat} (hi : i < K) (hj : j < K) (h1 : (L i)[a]? = some x) (h2 : (L j)[b]? = some x) : j = i ∧ b = a := by
  obtain ⟨nd, en, r, v⟩ := h
  have e : j = i := by
    by_cases e : j = i
    · exact e
    · exact absurd rfl (v.apart hj hi (List.mem_of_getElem? h2) (List.mem_of_getElem? h1) e)
  subst e
  exact ⟨rfl, getElem_unique (v.nodup j hj) h2 h1⟩

theorem AbsQ.lts {w : World} {bq bn be N K : Nat} {L : Nat → List Nat} (h : AbsQ w bq bn be N K L) : ∀ x ∈ [bn, be], x < w.heap.size := by
  obtain ⟨nd, en, r, v⟩ := h
  intro x hx
  rcases (show x = bn ∨ x = be by simpa using hx) with rfl | rfl
  · exact r.n.lt
  · exact r.e.lt

/-- The program's queues turn: the document's stay. -/
theorem RefQ.stay {w w' : World} {bq bn be N K pr bl N' K' : Nat} {L L' : Nat → List Nat} {ss : Nat → Value} (h : RefQ w pr bl N K L ss) (q : AbsQ w bq bn be N' K' L') (hf : Fr [bn, be] w w') : RefQ w' pr bl N K L ss := by
  obtain ⟨nd, en, r, v⟩ := q
  refine h.fr hf ?_ ?_ ?_
  · simpa using ⟨h.p.ne r.n (by decide), h.p.ne r.e (by decide)⟩
  · simpa using ⟨h.l.ne r.n (by decide), h.l.ne r.e (by decide)⟩
  · intro i hi g hg
    simpa using ⟨own_off (h.own i hi) r.n (by decide) g hg, own_off (h.own i hi) r.e (by decide) g hg⟩
/-- The document's turn: the program's stay. -/
theorem AbsQ.stay {w w' : World} {bq bn be N K pr bl N' K' : Nat} {L L' : Nat → List Nat} {ss : Nat → Value} (q : AbsQ w bq bn be N K L) (h : RefQ w pr bl N' K' L' ss) (hf : Fr [bl] w w') : AbsQ w' bq bn be N K L := by
  obtain ⟨nd, en, r, v⟩ := id q
  exact q.fr hf (by simpa using r.q.ne h.l (by decide)) (by simpa using r.n.ne h.l (by decide)) (by simpa using r.e.ne h.l (by decide))

def Both (w : World) (bq bn be pr bl N K : Nat) (L : Nat → List Nat) : Prop := AbsQ w bq bn be N K L ∧ ∃ ss, RefQ w pr bl N K L ss
theorem Both.fr {w w' : World} {bq bn be pr bl N K : Nat} {L : Nat → List Nat} (h : Both w bq bn be pr bl N K L) (hf : Fr [] w w') : Both w' bq bn be pr bl N K L :=
  ⟨h.1.fr hf (by simp) (by simp) (by simp), h.2.choose, h.2.choose_spec.fr hf (by simp) (by simp) (by simp)⟩
theorem Both.ss {w : World} {bq bn be pr bl N K : Nat} {L : Nat → List Nat} (h : Both w bq bn be pr bl N K L) : ∃ ss, RefQ w pr bl N K L ss := h.2

abbrev Acted (w : World) (bq bn be pr bl N K : Nat) (w' : World) : Prop := Fr [bn, be, bl] w w' ∧ ∃ L', Both w' bq bn be pr bl N K L'

theorem three {w w1 w2 : World} {bn be bl : Nat} (h : Fr [] w w1) (k : Fr [bn, be] w1 w2) : Fr [bn, be, bl] w w2 :=
  (h.mono (by simp)).trans (k.mono (by simp))
theorem three' {w w1 w2 : World} {bn be bl : Nat} (h : Fr [bn, be, bl] w w1) (k : Fr [bl] w1 w2) : Fr [bn, be, bl] w w2 :=
  h.trans (k.mono (by simp))

theorem act_any (w : World) (bq bn be pr bl N K : Nat) (L : Nat → List Nat) (h : Both w bq bn be pr bl N K L) (k i n : Int) :
    Calls Try.prog 26 #[.pointer (some ⟨bq, 0, none⟩), .pointer (some ⟨pr, 0, none⟩), .agg #[.int .i64 k, .int .i64 i, .int .i64 n]] w fun e w' => e = .returned (.bool true) ∧ Acted w bq bn be pr bl N K w' := by
  obtain ⟨hN, hK, hL⟩ := h.1.bound
  have hlt := h.1.lts
  rcases (show k = 0 ∨ k = 1 ∨ k = 2 ∨ k = 3 ∨ k = 4 ∨ (k < 0 ∨ 4 < k) by omega) with rfl | rfl | rfl | rfl | rfl | hk
  · -- Push
    by_cases c : pushOk N K L i n
    · obtain ⟨c1, c2, c3, c4, c5⟩ := c
      obtain ⟨i, rfl⟩ := Int.eq_ofNat_of_zero_le c1
      obtain ⟨n, rfl⟩ := Int.eq_ofNat_of_zero_le c3
      refine act_push w _ _ i n true [bn, be] hlt (fun w1 => Fr [bn, be, bl] w w1 ∧ AbsQ w1 bq bn be N K (updQ L i (L i ++ [n])) ∧ ∃ ss, RefQ w1 pr bl N K L ss) _ (fun w1 F => ?_) (fun w1 ⟨F, q, ss, r⟩ => ?_)
      · have h1 := h.fr F
        obtain ⟨ss, r⟩ := h1.ss
        refine (push_yes h1.1 i n (by omega) (by omega) (by simpa using c5)).mono ?_
        rintro e w2 ⟨he, F2, q2⟩
        exact ⟨he, F2, three F F2, q2, ss, r.stay h1.1 F2⟩
      · refine (refPush_yes w1 pr bl N K L ss r hK hN hL i n (by omega) (by omega) (by simpa using c5)).mono ?_
        rintro e w2 ⟨he, F2, ss', r2⟩
        exact ⟨he, three' F F2, _, q.stay r F2, ss', r2⟩
    · refine act_push w _ _ i n false [bn, be] hlt (fun w1 => Fr [bn, be, bl] w w1 ∧ Both w1 bq bn be pr bl N K L) _ (fun w1 F => ?_) (fun w1 ⟨F, q, ss, r⟩ => ?_)
      · have h1 := h.fr F
        obtain ⟨ss, r⟩ := h1.ss
        refine (push_refused h1.1 i n c).mono ?_
        rintro e w2 ⟨he, F2, q2⟩
        exact ⟨he, F2, three F F2, q2, ss, r.stay h1.1 F2⟩
      · refine (refPush_no w1 pr bl N K L ss r hK hN hL i n c).mono ?_
        rintro e w2 ⟨he, rfl⟩
        exact ⟨he, F, L, q, ss, r⟩
  · -- Pop
    by_cases c : (i < 0 ∨ K ≤ i) ∨ (∃ j : Nat, i = j ∧ j < K ∧ L j = [])
    · refine act_pop w _ _ i n 0 false [bn, be] hlt (fun w1 => Fr [bn, be, bl] w w1 ∧ Both w1 bq bn be pr bl N K L) _ (fun w1 F => ?_) (fun w1 ⟨F, q, ss, r⟩ => ?_)
      · have h1 := h.fr F
        refine (pop_no h1.1 i c).mono ?_
        rintro e w2 ⟨he, F2⟩
        exact ⟨he, F2.mono (by simp), three F (F2.mono (by simp)), h1.fr F2⟩
      · refine (refPop_no w1 pr bl N K L ss r hK i c).mono ?_
        rintro e w2 ⟨he, rfl⟩
        exact ⟨he, F, L, q, ss, r⟩
    · have c1 : 0 ≤ i ∧ i < K := ⟨by omega, by omega⟩
      obtain ⟨i, rfl⟩ := Int.eq_ofNat_of_zero_le c1.1
      have hi : i < K := by omega
      obtain ⟨x, l, hx⟩ : ∃ x l, L i = x :: l := by
        rcases e : L i with _ | ⟨x, l⟩
        · exact absurd (.inr ⟨i, rfl, hi, e⟩) c
        · exact ⟨x, l, rfl⟩
      refine act_pop w _ _ i n x true [bn, be] hlt (fun w1 => Fr [bn, be, bl] w w1 ∧ AbsQ w1 bq bn be N K (updQ L i l) ∧ ∃ ss, RefQ w1 pr bl N K L ss) _ (fun w1 F => ?_) (fun w1 ⟨F, q, ss, r⟩ => ?_)
      · have h1 := h.fr F
        obtain ⟨ss, r⟩ := h1.ss
        refine (pop_yes h1.1 i x l hi hx).mono ?_
        rintro e w2 ⟨he, F2, q2⟩
        exact ⟨he, F2, three F F2, q2, ss, r.stay h1.1 F2⟩
      · refine (refPop_yes w1 pr bl N K L ss r hK hL i x l hi hx (fun i' k' hi' hk' => h.1.unique hi hi' (by rw [hx]; rfl) hk')).mono ?_
        rintro e w2 ⟨he, F2, ss', r2⟩
        exact ⟨he, three' F F2, _, q.stay r F2, ss', r2⟩
  · -- Remove
    by_cases c : ∀ i, i < K → ∀ m : Nat, n = m → m ∉ L i
    · refine act_remove w _ _ i n 0 false [bn, be] hlt (fun w1 => Fr [bn, be, bl] w w1 ∧ Both w1 bq bn be pr bl N K L) _ (fun w1 F => ?_) (fun w1 ⟨F, q, ss, r⟩ => ?_)
      · have h1 := h.fr F
        refine (remove_none h1.1 n c).mono ?_
        rintro e w2 ⟨he, rfl⟩
        exact ⟨he, Fr.refl _ _, three F (Fr.refl _ _), h1⟩
      · refine (refRemove_no w1 pr bl N K L ss r hK hL n c).mono ?_
        rintro e w2 ⟨he, rfl⟩
        exact ⟨he, F, L, q, ss, r⟩
    · obtain ⟨j, hj, m, rfl, hm⟩ : ∃ j, j < K ∧ ∃ m : Nat, n = m ∧ m ∈ L j := by
        apply Classical.byContradiction
        intro hc
        exact c fun j hj m hm hmem => hc ⟨j, hj, m, hm, hmem⟩
      obtain ⟨X, Y, hx⟩ := List.append_of_mem hm
      refine act_remove w _ _ i m j true [bn, be] hlt (fun w1 => Fr [bn, be, bl] w w1 ∧ AbsQ w1 bq bn be N K (updQ L j (X ++ Y)) ∧ ∃ ss, RefQ w1 pr bl N K L ss) _ (fun w1 F => ?_) (fun w1 ⟨F, q, ss, r⟩ => ?_)
      · have h1 := h.fr F
        obtain ⟨ss, r⟩ := h1.ss
        refine (remove_yes h1.1 j m X Y hj hx).mono ?_
        rintro e w2 ⟨he, F2, q2⟩
        exact ⟨he, F2, three F F2, q2, ss, r.stay h1.1 F2⟩
      · refine (refRemove_yes w1 pr bl N K L ss r hK hL j m X Y hj hx (fun i' k' hi' hk' => h.1.unique hj hi' (by rw [hx]; simp) hk')).mono ?_
        rintro e w2 ⟨he, F2, ss', r2⟩
        exact ⟨he, three' F F2, _, q.stay r F2, ss', r2⟩
  · -- Front
    by_cases c : (i < 0 ∨ K ≤ i) ∨ (∃ j : Nat, i = j ∧ j < K ∧ L j = [])
    · refine act_front w _ _ i n 0 false [bn, be] hlt (fun w1 => Fr [bn, be, bl] w w1 ∧ Both w1 bq bn be pr bl N K L) _ (fun w1 F => ?_) (fun w1 ⟨F, q, ss, r⟩ => ?_)
      · have h1 := h.fr F
        refine (front_no h1.1 i c).mono ?_
        rintro e w2 ⟨he, F2⟩
        exact ⟨he, F2.mono (by simp), three F (F2.mono (by simp)), h1.fr F2⟩
      · refine (refFront_no w1 pr bl N K L ss r hK i c).mono ?_
        rintro e w2 ⟨he, rfl⟩
        exact ⟨he, F, L, q, ss, r⟩
    · have c1 : 0 ≤ i ∧ i < K := ⟨by omega, by omega⟩
      obtain ⟨i, rfl⟩ := Int.eq_ofNat_of_zero_le c1.1
      have hi : i < K := by omega
      obtain ⟨x, l, hx⟩ : ∃ x l, L i = x :: l := by
        rcases e : L i with _ | ⟨x, l⟩
        · exact absurd (.inr ⟨i, rfl, hi, e⟩) c
        · exact ⟨x, l, rfl⟩
      refine act_front w _ _ i n x true [bn, be] hlt (fun w1 => Fr [bn, be, bl] w w1 ∧ Both w1 bq bn be pr bl N K L) _ (fun w1 F => ?_) (fun w1 ⟨F, q, ss, r⟩ => ?_)
      · have h1 := h.fr F
        refine (front_yes h1.1 i x l hi hx).mono ?_
        rintro e w2 ⟨he, F2⟩
        exact ⟨he, F2.mono (by simp), three F (F2.mono (by simp)), h1.fr F2⟩
      · refine (refFront_yes w1 pr bl N K L ss r hK hL i x l hi hx).mono ?_
        rintro e w2 ⟨he, rfl⟩
        exact ⟨he, F, L, q, ss, r⟩
  · -- Of
    by_cases c : ∀ i, i < K → ∀ m : Nat, n = m → m ∉ L i
    · have hr : ∀ w1, (Fr [bn, be, bl] w w1 ∧ Both w1 bq bn be pr bl N K L) → Calls Try.prog 72 #[.pointer (some ⟨pr, 0, none⟩), .int .i64 n] w1 fun e w' => e = .returned (.tuple #[.int .i64 (-1), .int .i64 0]) ∧ Acted w bq bn be pr bl N K w' := by
        rintro w1 ⟨F, q, ss, r⟩
        refine (refFind_any w1 pr bl N K L ss r hK hL n).mono ?_
        rintro e w2 ⟨a, b, rfl, rfl, ⟨i', k', _, _, hi', x, hx, hm⟩ | ⟨rfl, rfl, _⟩⟩
        · exact absurd (List.mem_of_getElem? hm) (c i' hi' x hx.symm)
        · exact ⟨rfl, F, L, q, ss, r⟩
      refine act_of w _ _ i n 0 (-1) 0 false (by decide) (by omega) _ _ (fun w1 F => ?_) hr
      have h1 := h.fr F
      refine (of_no h1.1 n c).mono ?_
      rintro e w2 ⟨he, rfl⟩
      exact ⟨he, Fr.refl _ _, three F (Fr.refl _ _), h1⟩
    · obtain ⟨j, hj, m, rfl, hm⟩ : ∃ j, j < K ∧ ∃ m : Nat, n = m ∧ m ∈ L j := by
        apply Classical.byContradiction
        intro hc
        exact c fun j hj m hm hmem => hc ⟨j, hj, m, hm, hmem⟩
      obtain ⟨b, hb⟩ := List.getElem?_of_mem hm
      have hr : ∀ w1, (Fr [bn, be, bl] w w1 ∧ Both w1 bq bn be pr bl N K L) → Calls Try.prog 72 #[.pointer (some ⟨pr, 0, none⟩), .int .i64 m] w1 fun e w' => e = .returned (.tuple #[.int .i64 (j : Int), .int .i64 (b : Int)]) ∧ Acted w bq bn be pr bl N K w' := by
        rintro w1 ⟨F, q, ss, r⟩
        refine (refFind_any w1 pr bl N K L ss r hK hL m).mono ?_
        rintro e w2 ⟨a, b', rfl, rfl, ⟨i', k', rfl, rfl, hi', x, hx, hm'⟩ | ⟨rfl, rfl, hn⟩⟩
        · obtain rfl : x = m := by omega
          obtain ⟨rfl, rfl⟩ := h.1.unique hj hi' hb hm'
          exact ⟨rfl, F, L, q, ss, r⟩
        · exact absurd rfl (hn j hj m hm)
      refine act_of w _ _ i m j j b true (by simp) (by omega) _ _ (fun w1 F => ?_) hr
      have h1 := h.fr F
      refine (of_yes h1.1 j m hj hm).mono ?_
      rintro e w2 ⟨he, rfl⟩
      exact ⟨he, Fr.refl _ _, three F (Fr.refl _ _), h1⟩
  · refine (act_other w _ _ k i n hk).mono ?_
    rintro e w' ⟨he, F⟩
    exact ⟨he, F.mono (by simp), L, h.fr F⟩
end Go.Proofs.Ytgddmkgmpibpgaa
