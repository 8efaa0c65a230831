/- A book: what Add answers. -/
import Derived.Test.YtkimldeagndgjaaBookB
import Derived.Outline
namespace Go.Proofs.Ytkimldeagndgjaa
set_option linter.unusedVariables false
set_option linter.unusedSimpArgs false
open Go.RowKit

theorem nd_v {A B : List Nat} {l q n e hs : Nat} {v v' : Value} (h : (A ++ (sideD l v q n e ++ B)).Nodup) (hlt : ∀ x ∈ A ++ (sideD l v q n e ++ B), x < hs) (hv : v'.ownBlock = v.ownBlock ∨ ∃ g, v'.ownBlock = some g ∧ hs ≤ g) :
    (A ++ (sideD l v' q n e ++ B)).Nodup ∧ ∀ x ∈ A ++ (sideD l v' q n e ++ B), x ∈ A ++ (sideD l v q n e ++ B) ∨ (hs ≤ x ∧ v'.ownBlock = some x) := by
  rcases hv with e1 | ⟨g, e1, hg⟩
  · have : sideD l v' q n e = sideD l v q n e := by unfold sideD; rw [e1]
    rw [this]; exact ⟨h, fun x hx => .inl hx⟩
  · have e2 : sideD l v' q n e = l :: q :: n :: e :: [g] := by unfold sideD; rw [e1]; rfl
    rw [e2]
    have hsub : (A ++ (l :: q :: n :: e :: B)).Sublist (A ++ (sideD l v q n e ++ B)) := by
      refine List.Sublist.append_left ?_ A
      unfold sideD
      simp only [List.cons_append]
      exact List.Sublist.cons_cons _ (List.Sublist.cons_cons _ (List.Sublist.cons_cons _ (List.Sublist.cons_cons _ (List.sublist_append_right _ _))))
    have hp : (A ++ (l :: q :: n :: e :: [g] ++ B)).Perm (g :: (A ++ (l :: q :: n :: e :: B))) := by
      have := List.perm_middle (a := g) (l₁ := A ++ [l, q, n, e]) (l₂ := B)
      simpa using this
    have hng : g ∉ A ++ (l :: q :: n :: e :: B) := fun hm => by have := hlt g (hsub.subset hm); omega
    refine ⟨hp.nodup_iff.2 (List.nodup_cons.2 ⟨hng, hsub.nodup h⟩), fun x hx => ?_⟩
    rcases List.mem_cons.1 (hp.mem_iff.1 hx) with e3 | e3
    · exact .inr ⟨by omega, by rw [e3]; exact e1⟩
    · exact .inl (hsub.subset e3)
theorem SideI.lts {w : World} {s : Int} {lp : Nat} {v : Value} {bq bn be N K : Nat} {T : List Nat} {ord : Nat → Ord} (h : SideI w s lp v bq bn be N K T ord) : ∀ g, v.ownBlock = some g → g < w.heap.size := by
  obtain ⟨u, n, f, Lq, hl, _⟩ := h.ex
  exact hl.lts

/-- What an op may make of a book. -/
def Makes (w : World) (b : Nat) (D : List Nat) (N K : Nat) (L : List Ord) (w' : World) : Prop := Fr D w w' ∧ ∃ D', BookI w' b D' N K L ∧ ∀ x ∈ D', x ∈ D ∨ w.heap.size ≤ x

section
variable {w : World} {b ba bi bs bm l0 q0 n0 e0 l1 q1 n1 e1 : Nat} {v0 v1 : Value} {N K : Nat} {fl : List Nat} {m : Nat → Option Ord} {ix : Int → Option Nat} {T : List Nat} {ord : Nat → Ord}
/-- The plain side of an addition. -/
theorem BookR.adds (h : BookR w b ba bi bs bm l0 q0 n0 e0 l1 q1 n1 e1 v0 v1 N K fl m ix T ord) {n : Nat} (hn : n ∉ T) (hnN : n < N) {o : Ord} (ho : Good o) (hid : ∀ x ∈ T.map ord, x.id ≠ o.id) :
    Times N (T ++ [n]) (updO ord n o) ∧ (∀ i, i ∈ T ++ [n] → updO m n (some o) i = some (updO ord n o i)) ∧ (∀ i, i ∉ T ++ [n] → updO m n (some o) i = none) ∧
    (∀ id s, updm ix o.id (some n) id = some s ↔ s ∈ T ++ [n] ∧ (updO ord n o s).id = id) ∧ (T ++ [n]).map (updO ord n o) = T.map ord ++ [o] := by
  refine ⟨⟨?_, ?_, ?_, h.t.N2⟩, ?_, ?_, ?_, ?_⟩
  · rw [List.nodup_append]
    exact ⟨h.t.nd, by simp, fun a ha c hc => by rw [List.mem_singleton.1 hc]; exact fun e => hn (e ▸ ha)⟩
  · intro i hi
    rcases List.mem_append.1 hi with hi | hi
    · exact h.t.lt i hi
    · rw [List.mem_singleton.1 hi]; exact hnN
  · intro i hi
    rcases List.mem_append.1 hi with hi | hi
    · rw [updO_ne (show i ≠ n from fun e => hn (e ▸ hi))]; exact h.t.good i hi
    · rw [List.mem_singleton.1 hi, updO_same]; exact ho
  · intro i hi
    rcases List.mem_append.1 hi with hi | hi
    · have e := show i ≠ n from fun e => hn (e ▸ hi)
      rw [updO_ne e, updO_ne e]; exact h.mt i hi
    · rw [List.mem_singleton.1 hi, updO_same, updO_same]
  · intro i hi
    have e1 : i ∉ T := fun hh => hi (by simp [hh])
    have e2 : i ≠ n := fun hh => hi (by simp [hh])
    rw [updO_ne e2]; exact h.mn i e1
  · intro id s
    unfold updm
    by_cases c : id = o.id
    · rw [if_pos c]
      constructor
      · intro e; injection e with e
        subst e
        exact ⟨by simp, by rw [updO_same, c]⟩
      · rintro ⟨h1, h2⟩
        rcases List.mem_append.1 h1 with h1 | h1
        · rw [updO_ne (show s ≠ n from fun e => hn (e ▸ h1))] at h2
          exact absurd (h2.trans c) (hid _ (List.mem_map.2 ⟨s, h1, rfl⟩))
        · rw [List.mem_singleton.1 h1]
    · rw [if_neg c, h.ids id s]
      constructor
      · rintro ⟨h1, h2⟩
        exact ⟨by simp [h1], by rw [updO_ne (show s ≠ n from fun e => hn (e ▸ h1))]; exact h2⟩
      · rintro ⟨h1, h2⟩
        rcases List.mem_append.1 h1 with h1 | h1
        · rw [updO_ne (show s ≠ n from fun e => hn (e ▸ h1))] at h2; exact ⟨h1, h2⟩
        · rw [List.mem_singleton.1 h1, updO_same] at h2; exact absurd h2.symm c
  · rw [List.map_append, List.map_singleton, updO_same]
    congr 1
    refine List.map_congr_left fun i hi => ?_
    rw [updO_ne (show i ≠ n from fun e => hn (e ▸ hi))]
end

set_option maxHeartbeats 2000000 in
theorem bookAdd_ok (w : World) (b : Nat) (D : List Nat) (N K : Nat) (L : List Ord) (h : BookI w b D N K L) (o : Ord) (ho : Good o) (hid : ∀ x ∈ L, x.id ≠ o.id) (hfit : FitsL o.sd o.pr L K) (hroom : L.length < N) :
    Calls Try.prog 23 #[.pointer (some ⟨b, 0, none⟩), .agg o.a] w fun e w' => e = .returned (.int .i64 0) ∧ Makes w b D N K (L ++ [o]) w' := by
  obtain ⟨ba, bi, bs, bm, l0, q0, n0, e0, l1, q1, n1, e1, v0, v1, fl, m, ix, T, ord, hr, rfl, rfl⟩ := h
  simp only [List.length_map] at hroom
  have hlen := hr.len
  have hp : In63 o.pr := by unfold In63; have := ho.pr; omega
  have hK := hr.K2
  have hix : ix o.id = none := by
    cases hh : ix o.id with
    | none => rfl
    | some s =>
      obtain ⟨h1, h2⟩ := (hr.ids o.id s).1 hh
      exact absurd h2 (hid _ (List.mem_map.2 ⟨s, h1, rfl⟩))
  cases fl with
  | nil => simp at hlen; omega
  | cons n fl =>
    obtain ⟨hnN, hmn⟩ := (hr.a.mem n).1 (by simp)
    have hnT : n ∉ T := fun hh => by rw [hr.mt n hh] at hmn; cases hmn
    obtain ⟨t', mt', mn', ids', map'⟩ := hr.adds hnT hnN ho hid
    have hlen' : (T ++ [n]).length + fl.length = N := by simp at hlen ⊢; omega
    have hRoom : ∀ W, Fr [] w W → Calls Try.prog 46 #[.pointer (some ⟨b, 0, none⟩), .int .i64 o.sd, .int .i64 o.pr] W fun e W' => e = .returned (.bool true) ∧ Fr [] W W' :=
      fun W hf => bkRoom W b ba bi bs bm l0 q0 n0 e0 l1 q1 n1 e1 v0 v1 N K (n :: fl) m ix T ord (hr.fr hf (by simp)) o.sd ho.sd o.pr hp true (by simp; exact ⟨hfit, hroom⟩)
    rcases ho.sd with hs | hs
    · refine (bkAdd_core w b ba bi bs bm l0 q0 n0 e0 1 v0 N K n fl m ix T ord 0 o _ hr.blk rfl rfl rfl rfl (fun W => by rw [hs]; exact of_side0 W b) hRoom hr.a hr.x hr.s0 hr.t (by omega) hnT ho hs hix (hs ▸ hfit) ?_ ?_).mono ?_
      · have := hr.nd; rw [← List.append_assoc] at this; exact (List.nodup_append.1 this).1
      · intro x hx; exact hr.lt x (by rw [← List.append_assoc]; exact List.mem_append_left _ hx)
      rintro e w' ⟨rfl, v', F, hv', A', X', S'⟩
      have hF : ∀ x ∈ ba :: bs :: bm :: sideD l0 v0 q0 n0 e0, x ∈ [b, ba, bi, bs, bm] ++ (sideD l0 v0 q0 n0 e0 ++ sideD l1 v1 q1 n1 e1) := by
        intro x hx
        simp only [List.mem_cons, List.mem_append, List.not_mem_nil, or_false] at hx ⊢
        rcases hx with e | e | e | e <;> simp [e]
      obtain ⟨nd', in'⟩ := nd_v (A := [b, ba, bi, bs, bm]) (B := sideD l1 v1 q1 n1 e1) hr.nd hr.lt hv'
      have hdis : ∀ x ∈ sideD l1 v1 q1 n1 e1, x ∉ ba :: bs :: bm :: sideD l0 v0 q0 n0 e0 := by
        intro x hx hm
        have h1 := List.nodup_append.1 hr.nd
        have h2 := List.nodup_append.1 h1.2.1
        simp only [List.mem_cons] at hm
        rcases hm with e | e | e | e
        · exact h1.2.2 ba (by simp) x (List.mem_append_right _ hx) e.symm
        · exact h1.2.2 bs (by simp) x (List.mem_append_right _ hx) e.symm
        · exact h1.2.2 bm (by simp) x (List.mem_append_right _ hx) e.symm
        · exact h2.2.2 x e x hx rfl
      have hb : b ∉ ba :: bs :: bm :: sideD l0 v0 q0 n0 e0 := by
        have h1 := hr.nd
        simp only [List.cons_append, List.nil_append, List.nodup_cons, List.mem_cons, List.mem_append, not_or] at h1
        simp only [List.mem_cons, not_or]
        exact ⟨h1.1.1, h1.1.2.2.1, h1.1.2.2.2.1, h1.1.2.2.2.2.1⟩
      have S1 : SideI w' 1 l1 v1 q1 n1 e1 N K T ord := hr.s1.fr F (hdis _ (by simp [sideD])) (fun g hg => hdis g (by simp [sideD, hg])) (hdis _ (by simp [sideD])) (hdis _ (by simp [sideD])) (hdis _ (by simp [sideD]))
      refine ⟨rfl, F.mono hF, _, ⟨ba, bi, bs, bm, l0, q0, n0, e0, l1, q1, n1, e1, v', v1, fl, _, _, _, _, ⟨Blk.via F hb hr.blk, A', by simpa using X', S', S1.skip hnT (by rw [hs]; decide), t', mt', mn', ids', hlen', hr.K1, hr.K2, nd', ?_⟩, rfl, map'.symm⟩, fun x hx => (in' x hx).imp_right (·.1)⟩
      intro x hx
      rcases in' x hx with h1 | ⟨_, h1⟩
      · exact Nat.lt_of_lt_of_le (hr.lt x h1) F.size
      · exact S'.lts x h1
    · refine (bkAdd_core w b ba bi bs bm l1 q1 n1 e1 3 v1 N K n fl m ix T ord 1 o _ hr.blk rfl rfl rfl rfl (fun W => by rw [hs]; exact of_side1 W b) hRoom hr.a hr.x hr.s1 hr.t (by omega) hnT ho hs hix (hs ▸ hfit) ?_ ?_).mono ?_
      · refine List.Sublist.nodup ?_ hr.nd
        exact List.Sublist.append_left (List.sublist_append_right _ _) _
      · intro x hx
        refine hr.lt x ?_
        rcases List.mem_append.1 hx with e | e
        · exact List.mem_append_left _ e
        · exact List.mem_append_right _ (List.mem_append_right _ e)
      rintro e w' ⟨rfl, v', F, hv', A', X', S'⟩
      have hF : ∀ x ∈ ba :: bs :: bm :: sideD l1 v1 q1 n1 e1, x ∈ [b, ba, bi, bs, bm] ++ (sideD l0 v0 q0 n0 e0 ++ sideD l1 v1 q1 n1 e1) := by
        intro x hx
        simp only [List.mem_cons, List.mem_append, List.not_mem_nil, or_false] at hx ⊢
        rcases hx with e | e | e | e <;> simp [e]
      have hnd2 : (([b, ba, bi, bs, bm] ++ sideD l0 v0 q0 n0 e0) ++ (sideD l1 v1 q1 n1 e1 ++ [])).Nodup := by
        have := hr.nd; simpa [List.append_assoc] using this
      have hlt2 : ∀ x ∈ ([b, ba, bi, bs, bm] ++ sideD l0 v0 q0 n0 e0) ++ (sideD l1 v1 q1 n1 e1 ++ []), x < w.heap.size := by
        intro x hx
        exact hr.lt x (by simpa [List.append_assoc] using hx)
      obtain ⟨nd', in'⟩ := nd_v (A := [b, ba, bi, bs, bm] ++ sideD l0 v0 q0 n0 e0) (B := []) hnd2 hlt2 hv'
      rw [List.append_nil, List.append_assoc] at nd'
      have in2 : ∀ x ∈ [b, ba, bi, bs, bm] ++ (sideD l0 v0 q0 n0 e0 ++ sideD l1 v' q1 n1 e1), x ∈ [b, ba, bi, bs, bm] ++ (sideD l0 v0 q0 n0 e0 ++ sideD l1 v1 q1 n1 e1) ∨ (w.heap.size ≤ x ∧ v'.ownBlock = some x) := by
        intro x hx
        have := in' x (by simpa [List.append_assoc] using hx)
        simpa [List.append_assoc] using this
      have hdis : ∀ x ∈ sideD l0 v0 q0 n0 e0, x ∉ ba :: bs :: bm :: sideD l1 v1 q1 n1 e1 := by
        intro x hx hm
        have h1 := List.nodup_append.1 hr.nd
        have h2 := List.nodup_append.1 h1.2.1
        simp only [List.mem_cons] at hm
        rcases hm with e | e | e | e
        · exact h1.2.2 ba (by simp) x (List.mem_append_left _ hx) e.symm
        · exact h1.2.2 bs (by simp) x (List.mem_append_left _ hx) e.symm
        · exact h1.2.2 bm (by simp) x (List.mem_append_left _ hx) e.symm
        · exact h2.2.2 x hx x e rfl
      have hb : b ∉ ba :: bs :: bm :: sideD l1 v1 q1 n1 e1 := by
        have h1 := hr.nd
        simp only [List.cons_append, List.nil_append, List.nodup_cons, List.mem_cons, List.mem_append, not_or] at h1
        simp only [List.mem_cons, not_or]
        exact ⟨h1.1.1, h1.1.2.2.1, h1.1.2.2.2.1, h1.1.2.2.2.2.2⟩
      have S0 : SideI w' 0 l0 v0 q0 n0 e0 N K T ord := hr.s0.fr F (hdis _ (by simp [sideD])) (fun g hg => hdis g (by simp [sideD, hg])) (hdis _ (by simp [sideD])) (hdis _ (by simp [sideD])) (hdis _ (by simp [sideD]))
      refine ⟨rfl, F.mono hF, _, ⟨ba, bi, bs, bm, l0, q0, n0, e0, l1, q1, n1, e1, v0, v', fl, _, _, _, _, ⟨Blk.via F hb hr.blk, A', by simpa using X', S0.skip hnT (by rw [hs]; decide), S', t', mt', mn', ids', hlen', hr.K1, hr.K2, nd', ?_⟩, rfl, map'.symm⟩, fun x hx => (in2 x hx).imp_right (·.1)⟩
      intro x hx
      rcases in2 x hx with h1 | ⟨_, h1⟩
      · exact Nat.lt_of_lt_of_le (hr.lt x h1) F.size
      · exact S'.lts x h1
end Go.Proofs.Ytkimldeagndgjaa
