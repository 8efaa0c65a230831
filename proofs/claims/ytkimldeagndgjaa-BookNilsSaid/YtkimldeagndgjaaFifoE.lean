/- The queues by lists: each method's contract over the list of each queue's nodes. -/
import Derived.Test.YtkimldeagndgjaaFifoC
import Derived.Test.YtkimldeagndgjaaFifoD
namespace Go.Proofs.Ytkimldeagndgjaa
set_option linter.unusedVariables false
set_option linter.unusedSimpArgs false
open Go.RowKit

def AbsQ (w : World) (bq bn be N K : Nat) (L : Nat → List Nat) : Prop := ∃ nd en, RepQ w bq bn be N K nd en ∧ QInv N K L nd en

theorem AbsQ.fr {S : List Nat} {w w' : World} {bq bn be N K : Nat} {L : Nat → List Nat} (h : AbsQ w bq bn be N K L) (hf : Fr S w w') (h1 : bq ∉ S) (h2 : bn ∉ S) (h3 : be ∉ S) : AbsQ w' bq bn be N K L := by
  obtain ⟨nd, en, r, i⟩ := h
  exact ⟨nd, en, ⟨r.q.fr hf h1, r.n.fr hf h2, r.e.fr hf h3, r.N1, r.N2, r.K1, r.K2⟩, i⟩

/-- May n be pushed onto queue i? -/
def pushOk (N K : Nat) (L : Nat → List Nat) (i n : Int) : Prop := 0 ≤ i ∧ i < K ∧ 0 ≤ n ∧ n < N ∧ ∀ j, j < K → n.toNat ∉ L j

theorem push_yes {w : World} {bq bn be N K : Nat} {L : Nat → List Nat} (h : AbsQ w bq bn be N K L) (i n : Nat) (hi : i < K) (hn : n < N) (hf : ∀ j, j < K → n ∉ L j) :
    Calls Try.prog 88 #[.pointer (some ⟨bq, 0, none⟩), .int .i64 i, .int .i64 n] w fun e w' => e = .returned (.bool true) ∧ Fr [bn, be] w w' ∧ AbsQ w' bq bn be N K (updQ L i (L i ++ [n])) := by
  obtain ⟨nd, en, r, v⟩ := h
  have hl := v.free n hn hf
  have he := v.een i hi
  have hlen := v.len hi
  have hN := r.N2
  rcases hq : (L i).getLast? with _ | m
  · have hnil : L i = [] := List.getLast?_eq_none_iff.1 hq
    refine (push_ok1 w bq bn be N K nd en r i n hi hn hl (by rw [he]; simp [hnil, ptr]) (by rw [he]; dsimp only; omega)).mono ?_
    rintro e w' ⟨h1, h2, h3⟩
    exact ⟨h1, h2, _, _, h3, inv_push1 v hi hn hf hnil⟩
  · have hm := getLast_mem hq
    have hmn : n ≠ m := by rintro rfl; exact hf i hi hm
    refine (push_ok2 w bq bn be N K nd en r i n m hi hn (v.queue hi hm).1 hmn hl (by rw [he]; simp [hq, ptr]) (by rw [he]; dsimp only; omega)).mono ?_
    rintro e w' ⟨h1, h2, h3⟩
    exact ⟨h1, h2, _, _, h3, inv_push2 v hi hn hf hq⟩

theorem push_refused {w : World} {bq bn be N K : Nat} {L : Nat → List Nat} (h : AbsQ w bq bn be N K L) (i n : Int) (hno : ¬ pushOk N K L i n) :
    Calls Try.prog 88 #[.pointer (some ⟨bq, 0, none⟩), .int .i64 i, .int .i64 n] w fun e w' => e = .returned (.bool false) ∧ Fr [bn, be] w w' ∧ AbsQ w' bq bn be N K L := by
  obtain ⟨nd, en, r, v⟩ := h
  by_cases c1 : i < 0 ∨ K ≤ i
  · refine (push_noq w bq bn be N K nd en r i n c1).mono ?_
    rintro e w' ⟨h1, h2, h3⟩
    exact ⟨h1, h2, _, _, h3, v⟩
  · obtain ⟨i', rfl⟩ := Int.eq_ofNat_of_zero_le (show 0 ≤ i by omega)
    by_cases c2 : n < 0 ∨ N ≤ n
    · refine (push_non w bq bn be N K nd en r i' n (by omega) c2).mono ?_
      rintro e w' ⟨h1, h2, h3⟩
      exact ⟨h1, h2, _, _, h3, v⟩
    · obtain ⟨n', rfl⟩ := Int.eq_ofNat_of_zero_le (show 0 ≤ n by omega)
      have hex : ∃ j, j < K ∧ n' ∈ L j := by
        by_cases c : ∃ j, j < K ∧ n' ∈ L j
        · exact c
        · exfalso
          apply hno
          refine ⟨by omega, by omega, by omega, by omega, fun j hj hm => c ⟨j, hj, ?_⟩⟩
          simpa using hm
      obtain ⟨j, hj, hm⟩ := hex
      refine (push_in w bq bn be N K nd en r i' n' (by omega) (by omega) (by rw [(v.queue hj hm).2]; first | (simp; done) | (simp; omega))).mono ?_
      rintro e w' ⟨h1, h2, h3⟩
      exact ⟨h1, h2, _, _, h3, v⟩

theorem front_yes {w : World} {bq bn be N K : Nat} {L : Nat → List Nat} (h : AbsQ w bq bn be N K L) (i x : Nat) (l : List Nat) (hi : i < K) (hL : L i = x :: l) :
    Calls Try.prog 94 #[.pointer (some ⟨bq, 0, none⟩), .int .i64 i] w fun e w' => e = .returned (.tuple #[.int .i64 x, .bool true]) ∧ Fr [] w w' := by
  obtain ⟨nd, en, r, v⟩ := h
  have he := v.een i hi
  rw [hL] at he
  have hf : (en i).first = x := by rw [he]; simp [ptr]
  refine (front_some w bq bn be N K nd en r i hi (by rw [hf]; first | (simp; done) | (simp; omega))).mono ?_
  rw [hf]
  exact fun e w' h => h

theorem front_no {w : World} {bq bn be N K : Nat} {L : Nat → List Nat} (h : AbsQ w bq bn be N K L) (i : Int) (hi : (i < 0 ∨ K ≤ i) ∨ (∃ j : Nat, i = j ∧ j < K ∧ L j = [])) :
    Calls Try.prog 94 #[.pointer (some ⟨bq, 0, none⟩), .int .i64 i] w fun e w' => e = .returned (.tuple #[.int .i64 0, .bool false]) ∧ Fr [] w w' := by
  obtain ⟨nd, en, r, v⟩ := h
  rcases hi with hi | ⟨j, rfl, hj, hL⟩
  · exact front_out w bq bn be N K nd en r i hi
  · exact front_empty w bq bn be N K nd en r j hj (by rw [v.een j hj, hL]; rfl)

theorem of_yes {w : World} {bq bn be N K : Nat} {L : Nat → List Nat} (h : AbsQ w bq bn be N K L) (i n : Nat) (hi : i < K) (hn : n ∈ L i) :
    Calls Try.prog 166 #[.pointer (some ⟨bq, 0, none⟩), .int .i64 n] w fun e w' => e = .returned (.tuple #[.int .i64 i, .bool true]) ∧ w = w' := by
  obtain ⟨nd, en, r, v⟩ := h
  obtain ⟨h1, h2⟩ := v.queue hi hn
  refine (of_in w bq bn be N K nd en r n h1 (by rw [h2]; first | (simp; done) | (simp; omega))).mono ?_
  rw [h2]
  exact fun e w' h => h

theorem of_no {w : World} {bq bn be N K : Nat} {L : Nat → List Nat} (h : AbsQ w bq bn be N K L) (n : Int) (hn : ∀ i, i < K → ∀ m : Nat, n = m → m ∉ L i) :
    Calls Try.prog 166 #[.pointer (some ⟨bq, 0, none⟩), .int .i64 n] w fun e w' => e = .returned (.tuple #[.int .i64 0, .bool false]) ∧ w = w' := by
  obtain ⟨nd, en, r, v⟩ := h
  by_cases c : n < 0 ∨ N ≤ n
  · exact of_out w bq bn be N K nd en r n c
  · obtain ⟨n', rfl⟩ := Int.eq_ofNat_of_zero_le (show 0 ≤ n by omega)
    exact of_loose w bq bn be N K nd en r n' (by omega) (by rw [v.free n' (by omega) (fun i hi => hn i hi n' rfl)])

theorem remove_none {w : World} {bq bn be N K : Nat} {L : Nat → List Nat} (h : AbsQ w bq bn be N K L) (n : Int) (hn : ∀ i, i < K → ∀ m : Nat, n = m → m ∉ L i) :
    Calls Try.prog 137 #[.pointer (some ⟨bq, 0, none⟩), .int .i64 n] w fun e w' => e = .returned (.tuple #[.int .i64 0, .bool false]) ∧ w = w' := by
  obtain ⟨nd, en, r, v⟩ := h
  refine remove_no w bq bn be N K nd en r n ?_
  by_cases c : n < 0 ∨ N ≤ n
  · exact .inl c
  · obtain ⟨n', rfl⟩ := Int.eq_ofNat_of_zero_le (show 0 ≤ n by omega)
    exact .inr ⟨n', by omega, rfl, by rw [v.free n' (by omega) (fun i hi => hn i hi n' rfl)]⟩

theorem remove_yes {w : World} {bq bn be N K : Nat} {L : Nat → List Nat} (h : AbsQ w bq bn be N K L) (i n : Nat) (A B : List Nat) (hi : i < K) (hs : L i = A ++ n :: B) :
    Calls Try.prog 137 #[.pointer (some ⟨bq, 0, none⟩), .int .i64 n] w fun e w' => e = .returned (.tuple #[.int .i64 i, .bool true]) ∧ Fr [bn, be] w w' ∧ AbsQ w' bq bn be N K (updQ L i (A ++ B)) := by
  obtain ⟨nd, en, r, v⟩ := h
  obtain ⟨hn, hl⟩ := v.lnk i hi A n B hs
  have he := v.een i hi
  have hlen := v.len hi
  have hN := r.N2
  have hc : 0 ≤ (en i).n ∧ (en i).n ≤ 1000 := by rw [he]; dsimp only; omega
  have inv := inv_remove v hi hs
  have hnd := v.nodup i hi
  rw [hs] at hnd
  obtain ⟨na, nb, nab⟩ := List.nodup_append.1 hnd
  obtain ⟨nnb, nB⟩ := List.nodup_cons.1 nb
  have inL : ∀ x, x ∈ A ∨ x ∈ B → x < N ∧ x ≠ n := fun x hx => by
    refine ⟨(v.queue hi (by rw [hs]; rcases hx with hx | hx <;> simp [hx])).1, ?_⟩
    rintro rfl
    rcases hx with hx | hx
    · exact nab x hx x (by simp) rfl
    · exact nnb hx
  rcases hp : A.getLast? with _ | p
  · rcases hq : B.head? with _ | q
    · rw [hp, hq] at hl inv
      refine (remove_00 w bq bn be N K nd en r i n hi hn (by simpa [ptr] using hl) hc).mono ?_
      rintro e w' ⟨h1, h2, h3⟩
      refine ⟨h1, h2, _, _, h3, ?_⟩
      have e1 : updL nd n ⟨-1, -1, -1⟩ = rmN nd n none none := by
        funext x; by_cases c : x = n <;> simp [updL, rmN, c]
      have e2 : updE en i ⟨-1, -1, (en i).n - 1⟩ = rmE en i none none := by
        funext x; by_cases c : x = i <;> simp [updE, rmE, c, ptr]
      rw [e1, e2]; exact inv
    · rw [hp, hq] at hl inv
      obtain ⟨q1, q2⟩ := inL q (.inr (head_mem hq))
      refine (remove_01 w bq bn be N K nd en r i n q hi hn q1 q2 (by simpa [ptr] using hl) hc).mono ?_
      rintro e w' ⟨h1, h2, h3⟩
      refine ⟨h1, h2, _, _, h3, ?_⟩
      have e1 : updL (updL nd q { nd q with ahead := -1 }) n ⟨-1, -1, -1⟩ = rmN nd n none (some q) := by
        funext x; by_cases c : x = n <;> by_cases c2 : x = q <;> simp [updL, rmN, c, c2, ptr]
      have e2 : updE en i ⟨q, (en i).last, (en i).n - 1⟩ = rmE en i none (some q) := by
        funext x; by_cases c : x = i <;> simp [updE, rmE, c, ptr]
      rw [e1, e2]; exact inv
  · rcases hq : B.head? with _ | q
    · rw [hp, hq] at hl inv
      obtain ⟨p1, p2⟩ := inL p (.inl (getLast_mem hp))
      refine (remove_10 w bq bn be N K nd en r i n p hi hn p1 p2 (by simpa [ptr] using hl) hc).mono ?_
      rintro e w' ⟨h1, h2, h3⟩
      refine ⟨h1, h2, _, _, h3, ?_⟩
      have e1 : updL (updL nd p { nd p with behind := -1 }) n ⟨-1, -1, -1⟩ = rmN nd n (some p) none := by
        funext x; by_cases c : x = n <;> by_cases c2 : x = p <;> simp [updL, rmN, c, c2, ptr]
      have e2 : updE en i ⟨(en i).first, p, (en i).n - 1⟩ = rmE en i (some p) none := by
        funext x; by_cases c : x = i <;> simp [updE, rmE, c, ptr]
      rw [e1, e2]; exact inv
    · rw [hp, hq] at hl inv
      obtain ⟨p1, p2⟩ := inL p (.inl (getLast_mem hp))
      obtain ⟨q1, q2⟩ := inL q (.inr (head_mem hq))
      have hpq : p ≠ q := by
        rintro rfl
        exact nab p (getLast_mem hp) p (by simp [head_mem hq]) rfl
      refine (remove_11 w bq bn be N K nd en r i n p q hi hn p1 p2 q1 q2 hpq (by simpa [ptr] using hl) hc).mono ?_
      rintro e w' ⟨h1, h2, h3⟩
      refine ⟨h1, h2, _, _, h3, ?_⟩
      have e1 : updL (updL (updL nd p { nd p with behind := q }) q { nd q with ahead := p }) n ⟨-1, -1, -1⟩ = rmN nd n (some p) (some q) := by
        funext x
        by_cases c : x = n
        · simp [updL, rmN, c]
        · by_cases c2 : x = p
          · have c3 : x ≠ q := by rw [c2]; exact hpq
            subst c2
            simp [updL, rmN, c, c3, ptr]
          · by_cases c3 : x = q
            · subst c3; simp [updL, rmN, c, c2, ptr]
            · simp [updL, rmN, c, c2, c3]
      have e2 : updE en i ⟨(en i).first, (en i).last, (en i).n - 1⟩ = rmE en i (some p) (some q) := by
        funext x; by_cases c : x = i <;> simp [updE, rmE, c]
      rw [e1, e2]; exact inv

theorem new_yes (w : World) (N K : Nat) (n1 : 1 ≤ N) (n2 : N ≤ 500) (k1 : 1 ≤ K) (k2 : K ≤ 400) :
    Calls Try.prog 82 #[.int .i64 N, .int .i64 K] w fun e w' => ∃ bq bn be, w.heap.size ≤ bq ∧ w.heap.size ≤ bn ∧ w.heap.size ≤ be ∧ e = .returned (.tuple #[.pointer (some ⟨bq, 0, none⟩), .int .i64 0]) ∧ Fr [] w w' ∧
      AbsQ w' bq bn be N K (fun _ => []) :=
  (new_ok w N K n1 n2 k1 k2).mono fun _ _ ⟨bq, bn, be, h1, h2, h3, h4, h5, h6⟩ => ⟨bq, bn, be, h1, h2, h3, h4, h5, _, _, h6, QInv.new N K⟩
end Go.Proofs.Ytkimldeagndgjaa
