/- The queues' plain law: lists of nodes, and links that stand for them. No program's step stands in this text. -/
import Derived.Test.YtkimldeagndgjaaFifoB
namespace Go.Proofs.Ytkimldeagndgjaa
set_option linter.unusedVariables false
set_option linter.unusedSimpArgs false

def ptr : Option Nat → Int
  | none => -1
  | some x => x

def updQ (L : Nat → List Nat) (i : Nat) (l : List Nat) : Nat → List Nat := fun j => if j = i then l else L j

structure QInv (N K : Nat) (L : Nat → List Nat) (nd : Nat → Link) (en : Nat → Ends) : Prop where
  een : ∀ i, i < K → en i = ⟨ptr (L i).head?, ptr (L i).getLast?, ((L i).length : Int)⟩
  lnk : ∀ i, i < K → ∀ (A : List Nat) (x : Nat) (B : List Nat), L i = A ++ x :: B → x < N ∧ nd x = ⟨ptr A.getLast?, ptr B.head?, (i : Int)⟩
  free : ∀ x, x < N → (∀ i, i < K → x ∉ L i) → nd x = ⟨-1, -1, -1⟩
  nodup : ∀ i, i < K → (L i).Nodup

section
variable {N K : Nat} {L : Nat → List Nat} {nd : Nat → Link} {en : Nat → Ends}

theorem QInv.queue (h : QInv N K L nd en) {i x : Nat} (hi : i < K) (hx : x ∈ L i) : x < N ∧ (nd x).queue = i := by
  obtain ⟨A, B, e⟩ := List.append_of_mem hx
  obtain ⟨h1, h2⟩ := h.lnk i hi A x B e
  exact ⟨h1, by rw [h2]⟩

theorem QInv.apart (h : QInv N K L nd en) {i j x y : Nat} (hi : i < K) (hj : j < K) (hx : x ∈ L i) (hy : y ∈ L j) (hij : i ≠ j) : x ≠ y := by
  rintro rfl
  have h1 := (h.queue hi hx).2
  have h2 := (h.queue hj hy).2
  rw [h1] at h2
  omega

theorem QInv.new (N K : Nat) : QInv N K (fun _ => []) (fun _ => ⟨-1, -1, -1⟩) (fun _ => ⟨-1, -1, 0⟩) :=
  ⟨fun _ _ => rfl, fun _ _ A x B (h : [] = A ++ x :: B) => by simp at h, fun _ _ _ => rfl, fun _ _ => List.nodup_nil⟩

theorem nodup_lt {N : Nat} : ∀ (l : List Nat), l.Nodup → (∀ x ∈ l, x < N) → l.length ≤ N := by
  induction N with
  | zero =>
    intro l _ h
    cases l with
    | nil => exact Nat.le_refl _
    | cons x l => have := h x (by simp); omega
  | succ N ih =>
    intro l hn h
    have h1 := ih (l.filter (fun x => x != N)) (hn.filter _) (fun x hx => by
      simp only [List.mem_filter, bne_iff_ne] at hx
      have := h x hx.1
      omega)
    have h2 : l.length ≤ (l.filter (fun x => x != N)).length + 1 := by
      clear ih h h1
      induction l with
      | nil => simp
      | cons x l ih =>
        have hn' := List.nodup_cons.1 hn
        by_cases e : x = N
        · subst e
          have : l.filter (fun y => y != x) = l := List.filter_eq_self.2 (fun y hy => by
            simp only [bne_iff_ne]
            rintro rfl
            exact hn'.1 hy)
          simp [this]
        · have := ih hn'.2
          simp [e]; omega
    omega

theorem QInv.len (h : QInv N K L nd en) {i : Nat} (hi : i < K) : (L i).length ≤ N := nodup_lt _ (h.nodup i hi) (fun x hx => (h.queue hi hx).1)

theorem last_app (A B : List Nat) (b : Nat) : (A ++ b :: B).getLast? = (b :: B).getLast? := by
  rw [List.getLast?_append, List.getLast?_eq_some_getLast (List.cons_ne_nil b B)]; rfl
theorem last_app2 (A B : List Nat) (x b : Nat) : (A ++ x :: b :: B).getLast? = (b :: B).getLast? := by
  rw [last_app, List.getLast?_cons_cons]
theorem getLast_mem {l : List Nat} {m : Nat} (h : l.getLast? = some m) : m ∈ l := List.mem_of_getLast? h
theorem head_mem {l : List Nat} {m : Nat} (h : l.head? = some m) : m ∈ l := List.mem_of_head? h

theorem concat_split {l A B : List Nat} {n x : Nat} (e : l ++ [n] = A ++ x :: B) : (B = [] ∧ x = n ∧ A = l) ∨ ∃ B', B = B' ++ [n] ∧ l = A ++ x :: B' := by
  rcases List.eq_nil_or_concat B with rfl | ⟨B', b, rfl⟩
  · have := List.append_inj' e rfl
    simp at this
    exact .inl ⟨rfl, this.2.symm, this.1.symm⟩
  · rw [List.concat_eq_append] at e ⊢
    have e' : l ++ [n] = (A ++ x :: B') ++ [b] := by rw [e]; simp
    have := List.append_inj' e' rfl
    simp at this
    exact .inr ⟨B', by rw [this.2], this.1⟩

theorem inv_push1 (h : QInv N K L nd en) {i n : Nat} (hi : i < K) (hn : n < N) (hf : ∀ j, j < K → n ∉ L j) (he : L i = []) :
    QInv N K (updQ L i (L i ++ [n])) (updL nd n ⟨-1, -1, i⟩) (updE en i ⟨n, n, (en i).n + 1⟩) := by
  refine ⟨fun j hj => ?_, fun j hj A x B e => ?_, fun x hx hno => ?_, fun j hj => ?_⟩
  · by_cases c : j = i
    · subst c
      have := h.een j hj
      simp [updQ, updE, he, ptr, this]
    · simp [updQ, updE, c, h.een j hj]
  · by_cases c : j = i
    · subst c
      simp only [updQ, if_pos] at e
      rw [he] at e
      rcases concat_split e with ⟨rfl, rfl, rfl⟩ | ⟨B', _, h2⟩
      · exact ⟨hn, by simp [updL, ptr]⟩
      · simp at h2
    · simp only [updQ, if_neg c] at e
      obtain ⟨h1, h2⟩ := h.lnk j hj A x B e
      have hx : x ≠ n := by rintro rfl; exact hf j hj (by rw [e]; simp)
      exact ⟨h1, by simp [updL, hx, h2]⟩
  · have hxn : x ≠ n := by rintro rfl; exact hno i hi (by simp [updQ])
    simp only [updL, if_neg hxn]
    refine h.free x hx (fun j hj hm => hno j hj ?_)
    by_cases c : j = i
    · rw [c, he] at hm; simp at hm
    · simp [updQ, c, hm]
  · by_cases c : j = i
    · subst c; simp [updQ, he]
    · simp [updQ, c, h.nodup j hj]

theorem inv_push2 (h : QInv N K L nd en) {i n m : Nat} (hi : i < K) (hn : n < N) (hf : ∀ j, j < K → n ∉ L j) (hl : (L i).getLast? = some m) :
    QInv N K (updQ L i (L i ++ [n])) (updL (updL nd n ⟨m, -1, i⟩) m { nd m with behind := n }) (updE en i ⟨(en i).first, n, (en i).n + 1⟩) := by
  have hm := getLast_mem hl
  have hmn : m ≠ n := by rintro rfl; exact hf i hi hm
  have hne : L i ≠ [] := by intro e; rw [e] at hl; simp at hl
  refine ⟨fun j hj => ?_, fun j hj A x B e => ?_, fun x hx hno => ?_, fun j hj => ?_⟩
  · by_cases c : j = i
    · subst c
      have := h.een j hj
      have e1 : (L j ++ [n]).head? = (L j).head? := by
        cases hc : L j with
        | nil => exact absurd hc hne
        | cons a l => simp
      simp [updQ, updE, ptr, this, e1]
    · simp [updQ, updE, c, h.een j hj]
  · by_cases c : j = i
    · subst c
      simp only [updQ, if_pos] at e
      rcases concat_split e with ⟨rfl, rfl, rfl⟩ | ⟨B', rfl, h2⟩
      · exact ⟨hn, by simp [updL, Ne.symm hmn, hl, ptr]⟩
      · obtain ⟨h3, h4⟩ := h.lnk j hj A x B' h2
        have hxn : x ≠ n := by rintro rfl; exact hf j hj (by rw [h2]; simp)
        refine ⟨h3, ?_⟩
        cases B' with
        | nil =>
          have : x = m := by rw [h2] at hl; simpa using hl
          subst this
          simp [updL, h4, ptr]
        | cons b B'' =>
          have hxm : x ≠ m := by
            rintro rfl
            have hnd := h.nodup j hj
            rw [h2] at hnd hl
            have hl2 : (b :: B'').getLast? = some x := by
              have e5 : (A ++ x :: b :: B'').getLast? = (b :: B'').getLast? := last_app2 _ _ _ _
              rw [e5] at hl
              exact hl
            have hin := getLast_mem hl2
            have := (List.nodup_append.1 hnd).2.1
            exact (List.nodup_cons.1 this).1 hin
          simp [updL, hxm, hxn, h4]
    · simp only [updQ, if_neg c] at e
      obtain ⟨h1, h2⟩ := h.lnk j hj A x B e
      have hxin : x ∈ L j := by rw [e]; simp
      have hx : x ≠ n := by rintro rfl; exact hf j hj hxin
      have hxm : x ≠ m := h.apart hj hi hxin hm c
      exact ⟨h1, by simp [updL, hx, hxm, h2]⟩
  · have hxn : x ≠ n := by rintro rfl; exact hno i hi (by simp [updQ])
    have hxm : x ≠ m := by rintro rfl; exact hno i hi (by simp [updQ, hm])
    simp only [updL, if_neg hxn, if_neg hxm]
    refine h.free x hx (fun j hj hmm => hno j hj ?_)
    by_cases c : j = i
    · subst c; simp [updQ, hmm]
    · simp [updQ, c, hmm]
  · by_cases c : j = i
    · subst c
      simp only [updQ, if_pos]
      rw [List.nodup_append]
      refine ⟨h.nodup j hj, by simp, fun a ha b hb => ?_⟩
      simp at hb
      subst hb
      rintro rfl
      exact hf j hj ha
    · simp [updQ, c, h.nodup j hj]

/-- The links behind the removal of n, between p and q. -/
def rmN (nd : Nat → Link) (n : Nat) (p q : Option Nat) : Nat → Link := fun x =>
  if x = n then ⟨-1, -1, -1⟩ else ⟨if some x = q then ptr p else (nd x).ahead, if some x = p then ptr q else (nd x).behind, (nd x).queue⟩
def rmE (en : Nat → Ends) (i : Nat) (p q : Option Nat) : Nat → Ends := fun j =>
  if j = i then ⟨if p = none then ptr q else (en i).first, if q = none then ptr p else (en i).last, (en i).n - 1⟩ else en j

theorem inv_remove (h : QInv N K L nd en) {i n : Nat} {A B : List Nat} (hi : i < K) (hs : L i = A ++ n :: B) :
    QInv N K (updQ L i (A ++ B)) (rmN nd n A.getLast? B.head?) (rmE en i A.getLast? B.head?) := by
  have hnd := h.nodup i hi
  have hin : n ∈ L i := by rw [hs]; simp
  rw [hs] at hnd
  obtain ⟨na, nb, nab⟩ := List.nodup_append.1 hnd
  obtain ⟨nnb, nB⟩ := List.nodup_cons.1 nb
  have nnA : n ∉ A := fun hx => nab n hx n (by simp) rfl
  have dAB : ∀ x, x ∈ A → x ∉ B := fun x hx hb => nab x hx x (by simp [hb]) rfl
  have pA : ∀ p, A.getLast? = some p → p ∈ A := fun p hp => getLast_mem hp
  have qB : ∀ q, B.head? = some q → q ∈ B := fun q hq => head_mem hq
  have inL : ∀ x, x ∈ A ∨ x ∈ B → x ∈ L i := by
    intro x hx
    rw [hs]
    rcases hx with hx | hx <;> simp [hx]
  refine ⟨fun j hj => ?_, fun j hj A' x B' e => ?_, fun x hx hno => ?_, fun j hj => ?_⟩
  · by_cases c : j = i
    · subst c
      have he := h.een j hj
      rw [hs] at he
      simp only [updQ, rmE, if_pos]
      cases A with
      | nil =>
        cases B with
        | nil => simp [he, ptr]
        | cons b B => first | (simp [he, ptr]; done) | (simp [he, ptr]; omega)
      | cons a A =>
        cases B with
        | nil => simp [he, ptr]
        | cons b B =>
          have k1 : (a :: A ++ n :: b :: B).getLast? = (a :: A ++ b :: B).getLast? := by rw [last_app2, last_app]
          rw [k1] at he
          simp [he, ptr]; omega
    · simp [updQ, rmE, c, h.een j hj]
  · by_cases c : j = i
    · subst c
      simp only [updQ, if_pos] at e
      have case1 : ∀ C, A' = A ++ C → B = C ++ x :: B' → x < N ∧ rmN nd n A.getLast? B.head? x = ⟨ptr A'.getLast?, ptr B'.head?, (j : Int)⟩ := by
        rintro C rfl hB
        have hx : x ∈ B := by rw [hB]; simp
        obtain ⟨h1, h2⟩ := h.lnk j hj (A ++ n :: C) x B' (by rw [hs, hB]; simp)
        refine ⟨h1, ?_⟩
        have xn : x ≠ n := by rintro rfl; exact nnb hx
        have xp : some x ≠ A.getLast? := fun hp => dAB x (pA x hp.symm) hx
        simp only [rmN, if_neg xn, if_neg xp, h2]
        cases C with
        | nil => simp at hB; simp [hB]
        | cons b C =>
          have xq : some x ≠ B.head? := by
            rw [hB]
            intro hq
            simp at hq
            rw [hB, hq] at nB
            simp at nB
          rw [if_neg xq]
          have e6 : (A ++ n :: b :: C).getLast? = (A ++ b :: C).getLast? := by rw [last_app2, last_app]
          rw [e6]
      rcases List.append_eq_append_iff.1 e with ⟨C, h1, h2⟩ | ⟨C, h1, h2⟩
      · exact case1 C h1 h2
      · cases C with
        | nil => simp at h1 h2; exact case1 [] (by simp [h1]) (by simp [h2])
        | cons y C =>
          simp at h2
          obtain ⟨rfl, rfl⟩ := h2
          obtain ⟨h3, h4⟩ := h.lnk j hj A' x (C ++ n :: B) (by rw [hs, h1]; simp)
          have hx : x ∈ A := by rw [h1]; simp
          refine ⟨h3, ?_⟩
          have xn : x ≠ n := by rintro rfl; exact nnA hx
          have xq : some x ≠ B.head? := fun hq => dAB x hx (qB x hq.symm)
          simp only [rmN, if_neg xn, if_neg xq, h4]
          cases C with
          | nil => simp [h1]
          | cons b C =>
            have xp : some x ≠ A.getLast? := by
              rw [h1]
              intro hp
              have e7 : (A' ++ x :: b :: C).getLast? = (b :: C).getLast? := last_app2 _ _ _ _
              rw [e7] at hp
              have hin2 := getLast_mem hp.symm
              rw [h1] at na
              exact (List.nodup_cons.1 (List.nodup_append.1 na).2.1).1 hin2
            rw [if_neg xp]
            simp
    · simp only [updQ, if_neg c] at e
      obtain ⟨h1, h2⟩ := h.lnk j hj A' x B' e
      have hxin : x ∈ L j := by rw [e]; simp
      have hx : x ≠ n := h.apart hj hi hxin hin c
      have xp : some x ≠ A.getLast? := fun hp => h.apart hj hi hxin (inL x (.inl (pA x hp.symm))) c rfl
      have xq : some x ≠ B.head? := fun hq => h.apart hj hi hxin (inL x (.inr (qB x hq.symm))) c rfl
      exact ⟨h1, by simp [rmN, hx, xp, xq, h2]⟩
  · by_cases xn : x = n
    · simp [rmN, xn]
    · have hnot : ∀ j, j < K → x ∉ L j := by
        intro j hj hm
        refine hno j hj ?_
        by_cases c : j = i
        · subst c
          rw [hs] at hm
          simp [updQ]
          simp [xn] at hm
          first | done | exact hm
        · simp [updQ, c, hm]
      have xp : some x ≠ A.getLast? := fun hp => hnot i hi (inL x (.inl (pA x hp.symm)))
      have xq : some x ≠ B.head? := fun hq => hnot i hi (inL x (.inr (qB x hq.symm)))
      simp only [rmN, if_neg xn, if_neg xp, if_neg xq]
      rw [h.free x hx hnot]
  · by_cases c : j = i
    · subst c
      simp only [updQ, if_pos]
      rw [List.nodup_append]
      exact ⟨na, nB, fun a ha b hb => nab a ha b (by simp [hb])⟩
    · simp [updQ, c, h.nodup j hj]
end
end Go.Proofs.Ytkimldeagndgjaa
