/- Words and contracts: Pick BookP BookQ BookT BookU BookV BookW. -/
import Derived.Outline
import Derived.Test.YtkimldeagndgjaaG5
/- One side of a book picked out, with the road back. No walk stands in this text. -/
namespace Go.Proofs.Ytkimldeagndgjaa
set_option linter.unusedVariables false
set_option linter.unusedSimpArgs false
open Go.RowKit

/-- What a picked side of a book is: its blocks, and how a book comes of a turned side. -/
structure Pick (w : World) (b ba bi bs bm so lp bq bn be : Nat) (v : Value) (bc : Array Value) (D : List Nat) (N K : Nat) (fl : List Nat) (m : Nat → Option Ord) (ix : Int → Option Nat) (T : List Nat) (ord : Nat → Ord) (s : Int) : Prop where
  blk : Blk w b 139 bc
  c0 : bc[0]? = some (.pointer (some ⟨ba, 0, none⟩))
  c1 : bc[so]? = some (.pointer (some ⟨lp, 0, none⟩))
  c2 : bc[so + 1]? = some (.pointer (some ⟨bq, 0, none⟩))
  c5 : bc[5]? = some (.pointer (some ⟨bi, 0, none⟩))
  of : ∀ W, Calls Try.prog 83 #[.pointer (some ⟨b, 0, none⟩), .int .i64 s] W fun e W' => e = .returned (.pointer (some ⟨b, so, none⟩)) ∧ W = W'
  a : ArI w ba N fl m
  x : IxI w bi bs bm ix T.length
  sd : SideI w s lp v bq bn be N K T ord
  t : Times N T ord
  mt : ∀ i, i ∈ T → m i = some (ord i)
  mn : ∀ i, i ∉ T → m i = none
  ids : ∀ id s, ix id = some s ↔ s ∈ T ∧ (ord s).id = id
  len : T.length + fl.length = N
  nd : ([b, ba, bi, bs, bm] ++ sideD lp v bq bn be).Nodup
  sub : ∀ x ∈ [b, ba, bi, bs, bm] ++ sideD lp v bq bn be, x ∈ D
  lt : ∀ x ∈ D, x < w.heap.size
  back : ∀ (w' : World) (S : List Nat) (v' : Value) (fl' : List Nat) (m' : Nat → Option Ord) (ix' : Int → Option Nat) (T' : List Nat) (ord' : Nat → Ord), Fr S w w' → (∀ x ∈ S, x ∈ ba :: bs :: bm :: sideD lp v bq bn be) → v'.ownBlock = v.ownBlock →
    ArI w' ba N fl' m' → IxI w' bi bs bm ix' T'.length → SideI w' s lp v' bq bn be N K T' ord' → (∀ (w : World) (lp : Nat) (v : Value) (bq bn be : Nat), SideI w (1 - s) lp v bq bn be N K T ord → SideI w (1 - s) lp v bq bn be N K T' ord') →
    Times N T' ord' → (∀ i, i ∈ T' → m' i = some (ord' i)) → (∀ i, i ∉ T' → m' i = none) → (∀ id s, ix' id = some s ↔ s ∈ T' ∧ (ord' s).id = id) → T'.length + fl'.length = N → BookI w' b D N K (T'.map ord')

theorem BookI.pick {w : World} {b N K : Nat} {D : List Nat} {L : List Ord} (h : BookI w b D N K L) (s : Int) (hs : s = 0 ∨ s = 1) :
    ∃ ba bi bs bm so lp bq bn be v bc fl m ix T ord, Pick w b ba bi bs bm so lp bq bn be v bc D N K fl m ix T ord s ∧ L = T.map ord := by
  obtain ⟨ba, bi, bs, bm, l0, q0, n0, e0, l1, q1, n1, e1, v0, v1, fl, m, ix, T, ord, hr, rfl, rfl⟩ := h
  rcases hs with rfl | rfl
  · refine ⟨ba, bi, bs, bm, 1, l0, q0, n0, e0, v0, _, fl, m, ix, T, ord, ⟨hr.blk, rfl, rfl, rfl, rfl, fun W => of_side0 W b, hr.a, hr.x, hr.s0, hr.t, hr.mt, hr.mn, hr.ids, hr.len, ?_, ?_, hr.lt, ?_⟩, rfl⟩
    · have := hr.nd; rw [← List.append_assoc] at this; exact (List.nodup_append.1 this).1
    · intro x hx; rw [← List.append_assoc]; exact List.mem_append_left _ hx
    · intro w' S v' fl' m' ix' T' ord' F hS hv A X S0 hoth t mt mn ids len
      have hv2 : sideD l0 v' q0 n0 e0 = sideD l0 v0 q0 n0 e0 := by unfold sideD; rw [hv]
      have hdis : ∀ x ∈ sideD l1 v1 q1 n1 e1, x ∉ S := by
        intro x hx hm
        have hm := hS x hm
        have h1 := List.nodup_append.1 hr.nd
        have h2 := List.nodup_append.1 h1.2.1
        simp only [List.mem_cons] at hm
        rcases hm with e | e | e | e
        · exact h1.2.2 ba (by simp) x (List.mem_append_right _ hx) e.symm
        · exact h1.2.2 bs (by simp) x (List.mem_append_right _ hx) e.symm
        · exact h1.2.2 bm (by simp) x (List.mem_append_right _ hx) e.symm
        · exact h2.2.2 x e x hx rfl
      have hb : b ∉ S := by
        intro hm
        have hm := hS b hm
        have h1 := hr.nd
        simp only [List.cons_append, List.nil_append, List.nodup_cons, List.mem_cons, List.mem_append, not_or] at h1
        simp only [List.mem_cons] at hm
        rcases hm with e | e | e | e
        · exact h1.1.1 e
        · exact h1.1.2.2.1 e
        · exact h1.1.2.2.2.1 e
        · exact h1.1.2.2.2.2.1 e
      have S1 : SideI w' 1 l1 v1 q1 n1 e1 N K T ord := hr.s1.fr F (hdis _ (by simp [sideD])) (fun g hg => hdis g (by simp [sideD, hg])) (hdis _ (by simp [sideD])) (hdis _ (by simp [sideD])) (hdis _ (by simp [sideD]))
      exact ⟨ba, bi, bs, bm, l0, q0, n0, e0, l1, q1, n1, e1, v', v1, fl', m', ix', T', ord', ⟨Blk.via F hb hr.blk, A, X, S0, hoth w' l1 v1 q1 n1 e1 S1, t, mt, mn, ids, len, hr.K1, hr.K2, by rw [hv2]; exact hr.nd, by rw [hv2]; exact fun x hx => Nat.lt_of_lt_of_le (hr.lt x hx) F.size⟩, by rw [hv2], rfl⟩
  · refine ⟨ba, bi, bs, bm, 3, l1, q1, n1, e1, v1, _, fl, m, ix, T, ord, ⟨hr.blk, rfl, rfl, rfl, rfl, fun W => of_side1 W b, hr.a, hr.x, hr.s1, hr.t, hr.mt, hr.mn, hr.ids, hr.len, ?_, ?_, hr.lt, ?_⟩, rfl⟩
    · refine List.Sublist.nodup ?_ hr.nd
      exact List.Sublist.append_left (List.sublist_append_right _ _) _
    · intro x hx
      rcases List.mem_append.1 hx with e | e
      · exact List.mem_append_left _ e
      · exact List.mem_append_right _ (List.mem_append_right _ e)
    · intro w' S v' fl' m' ix' T' ord' F hS hv A X S0 hoth t mt mn ids len
      have hv2 : sideD l1 v' q1 n1 e1 = sideD l1 v1 q1 n1 e1 := by unfold sideD; rw [hv]
      have hdis : ∀ x ∈ sideD l0 v0 q0 n0 e0, x ∉ S := by
        intro x hx hm
        have hm := hS x hm
        have h1 := List.nodup_append.1 hr.nd
        have h2 := List.nodup_append.1 h1.2.1
        simp only [List.mem_cons] at hm
        rcases hm with e | e | e | e
        · exact h1.2.2 ba (by simp) x (List.mem_append_left _ hx) e.symm
        · exact h1.2.2 bs (by simp) x (List.mem_append_left _ hx) e.symm
        · exact h1.2.2 bm (by simp) x (List.mem_append_left _ hx) e.symm
        · exact h2.2.2 x hx x e rfl
      have hb : b ∉ S := by
        intro hm
        have hm := hS b hm
        have h1 := hr.nd
        simp only [List.cons_append, List.nil_append, List.nodup_cons, List.mem_cons, List.mem_append, not_or] at h1
        simp only [List.mem_cons] at hm
        rcases hm with e | e | e | e
        · exact h1.1.1 e
        · exact h1.1.2.2.1 e
        · exact h1.1.2.2.2.1 e
        · exact h1.1.2.2.2.2.2 e
      have S1 : SideI w' 0 l0 v0 q0 n0 e0 N K T ord := hr.s0.fr F (hdis _ (by simp [sideD])) (fun g hg => hdis g (by simp [sideD, hg])) (hdis _ (by simp [sideD])) (hdis _ (by simp [sideD])) (hdis _ (by simp [sideD]))
      exact ⟨ba, bi, bs, bm, l0, q0, n0, e0, l1, q1, n1, e1, v0, v', fl', m', ix', T', ord', ⟨Blk.via F hb hr.blk, A, X, hoth w' l0 v0 q0 n0 e0 S1, S0, t, mt, mn, ids, len, hr.K1, hr.K2, by rw [hv2]; exact hr.nd, by rw [hv2]; exact fun x hx => Nat.lt_of_lt_of_le (hr.lt x hx) F.size⟩, by rw [hv2], rfl⟩
theorem Pick.fr {w W : World} {b ba bi bs bm so lp bq bn be : Nat} {v : Value} {bc : Array Value} {D : List Nat} {N K : Nat} {fl : List Nat} {m : Nat → Option Ord} {ix : Int → Option Nat} {T : List Nat} {ord : Nat → Ord} {s : Int}
    (P : Pick w b ba bi bs bm so lp bq bn be v bc D N K fl m ix T ord s) (hf : Fr [] w W) : Pick W b ba bi bs bm so lp bq bn be v bc D N K fl m ix T ord s :=
  ⟨Blk.via hf (by simp) P.blk, P.c0, P.c1, P.c2, P.c5, P.of, P.a.fr hf (by simp), P.x.fr hf (by simp) (by simp) (by simp), P.sd.fr hf (by simp) (by simp) (by simp) (by simp) (by simp), P.t, P.mt, P.mn, P.ids, P.len, P.nd, P.sub,
    fun x hx => Nat.lt_of_lt_of_le (P.lt x hx) hf.size, fun w' S v' fl' m' ix' T' ord' F hS => P.back w' S v' fl' m' ix' T' ord' ((hf.mono (by simp)).trans F) hS⟩
theorem Pick.frD {w w' : World} {b ba bi bs bm so lp bq bn be : Nat} {v : Value} {bc : Array Value} {D : List Nat} {N K : Nat} {fl : List Nat} {m : Nat → Option Ord} {ix : Int → Option Nat} {T : List Nat} {ord : Nat → Ord} {s : Int}
    (P : Pick w b ba bi bs bm so lp bq bn be v bc D N K fl m ix T ord s) {S : List Nat} (F : Fr S w w') (hS : ∀ x ∈ S, x ∈ ba :: bs :: bm :: sideD lp v bq bn be) : Fr D w w' :=
  F.mono fun x hx => P.sub x (by
    have hx := hS x hx
    simp only [List.mem_cons, List.mem_append, List.not_mem_nil, or_false] at hx ⊢
    rcases hx with e | e | e | e <;> simp [e])
end Go.Proofs.Ytkimldeagndgjaa

/- A book: an order is found, walked. -/
namespace Go.Proofs.Ytkimldeagndgjaa
set_option linter.unusedVariables false
set_option linter.unusedSimpArgs false
open Go.RowKit

section
variable {w : World} {b ba bi bs bm so lp bq bn be : Nat} {v : Value} {bc : Array Value} {D : List Nat} {N K : Nat} {fl : List Nat} {m : Nat → Option Ord} {ix : Int → Option Nat} {T : List Nat} {ord : Nat → Ord} {s : Int}
set_option maxHeartbeats 1000000 in
theorem bkFind_has (P : Pick w b ba bi bs bm so lp bq bn be v bc D N K fl m ix T ord s) (i : Nat) (hi : i ∈ T) :
    Calls Try.prog 90 #[.pointer (some ⟨b, 0, none⟩), .int .i64 (ord i).id] w fun e w' => e = .returned (.tuple #[.agg (ord i).a, .int .i64 i, .bool true]) ∧ Fr [] w w' := by
  have hid := (P.ids (ord i).id i).2 ⟨hi, rfl⟩
  have hget := fun W (hf : Fr [] w W) => ixGet_any W bi bs bm T.length ix (P.x.fr hf (by simp) (by simp) (by simp)) (ord i).id
  rw [hid] at hget
  have HGet := Lib.hid hget
  have HAr := Lib.hid (fun W (hf : Fr [] w W) => arGet_has W ba N i fl m (P.a.fr hf (by simp)) (ord i) (P.mt i hi))
  have HP := Lib.hid P
  clear hget hid P
  go_enter Try.func90, Try.ntmps90
  go_wp2_with fail
  refine wp_name (fun W0 hW => ?_)
  have B0 := Blk.box0 hW
  have F0 : Fr [] w W0 := Fr.eqv hW (by with_reducible repeat (first | exact Fr.refl _ _ | assumption | apply Fr.drew | apply Fr.drewN | apply Fr.alloc | (apply Fr.step; assumption; (intro _ h; (first | exact h | (focus (simp_all; done))))) | (apply Fr.setIn; (first | exact List.mem_cons_self | exact List.mem_cons_of_mem _ List.mem_cons_self | exact List.mem_cons_of_mem _ (List.mem_cons_of_mem _ List.mem_cons_self) | exact List.mem_cons_of_mem _ (List.mem_cons_of_mem _ (List.mem_cons_of_mem _ List.mem_cons_self)))) | (apply Fr.setNew; (first | omega | (simp; omega)))))
  clear hW
  refine wp_region_soft (by kernel_rfl) (by kernel_rfl) ?_; (repeat (refine wpQuiet_step (fun K hK => ?_); (first | ((fail); go_simp; refine hK _ ?_; clear hK K) | (apply soft_do; (rfl); (focus (intro W hC; (have q5 := ((Blk.via hC (by simp) (Blk.via F0 (by simp) HP.out.blk)).cell 5).trans HP.out.c5); go_simp; (first | (first | (go_at_call 85; refine (key_book _ _).mono ?_; rintro e w2 ⟨rfl, hf⟩; exact ⟨rfl, hC.trans hf⟩) | (go_at_call 84; refine (HGet.out _ (F0.trans hC)).mono ?_; rintro e w2 ⟨rfl, hf⟩; exact ⟨rfl, hC.trans hf⟩)) | done | rfl | exact ⟨rfl, rfl⟩))); (go_simp; refine hK _ ?_; clear hK K)) | (apply soft_skip; (rfl); (go_simp; refine hK _ ?_; clear hK K))))); refine wpQuiet_nil ?_
  intro w2 F2
  have B2 := Blk.via F2 (by simp) B0
  have K2 := Blk.via (F0.trans F2) (by simp) HP.out.blk
  have q0 := (K2.cell 0).trans HP.out.c0
  have F02 := F0.trans F2
  clear B0 F2 F0 HGet
  go_wp2_with fail
  refine (HAr.out _ F02).mono ?_
  rintro e w3 ⟨rfl, F3⟩
  have B3 := Blk.via F3 (by simp) B2
  have F03 := F02.trans F3
  clear q0 K2 B2 F02 F3
  go_wp2_with (first
    | (refine wpList_storeO rfl (.tmp 4) (.tmp 30) rfl w.heap.size _ (ord i) rfl rfl B3 rfl ?_
       intro w4 B4 F4)
    | (refine wpList_loadO rfl (.tmp 4) rfl w.heap.size (ord i) rfl B4 ?_)
    | (refine wpList_storeO rfl (.tmp 4) (.tmp 32) rfl w.heap.size _ (ord i) rfl rfl B4 rfl ?_
       intro w5 B5 F5))
  have c5 := B5.cell
  exact bodyPost_ret (v := .tuple #[.agg (ord i).a, .int .i64 i, .bool true]) (by simp [results, Try.results90, go_sem, c5]) rfl ⟨rfl, fr_fresh2 (Nat.le_refl _) (fr_fresh2 (Nat.le_refl _) F03 F4) F5⟩
set_option maxHeartbeats 1000000 in
theorem bkFind_no (P : Pick w b ba bi bs bm so lp bq bn be v bc D N K fl m ix T ord s) (id : Int) (hid : ix id = none) :
    Calls Try.prog 90 #[.pointer (some ⟨b, 0, none⟩), .int .i64 id] w fun e w' => e = .returned (.tuple #[.agg ord0.a, .int .i64 0, .bool false]) ∧ Fr [] w w' := by
  have hget := fun W (hf : Fr [] w W) => ixGet_any W bi bs bm T.length ix (P.x.fr hf (by simp) (by simp) (by simp)) id
  rw [hid] at hget
  have HGet := Lib.hid hget
  have HP := Lib.hid P
  clear hget hid P
  go_enter Try.func90, Try.ntmps90
  go_wp2_with fail
  refine wp_name (fun W0 hW => ?_)
  have B0 := Blk.box0 hW
  have F0 : Fr [] w W0 := Fr.eqv hW (by with_reducible repeat (first | exact Fr.refl _ _ | assumption | apply Fr.drew | apply Fr.drewN | apply Fr.alloc | (apply Fr.step; assumption; (intro _ h; (first | exact h | (focus (simp_all; done))))) | (apply Fr.setIn; (first | exact List.mem_cons_self | exact List.mem_cons_of_mem _ List.mem_cons_self | exact List.mem_cons_of_mem _ (List.mem_cons_of_mem _ List.mem_cons_self) | exact List.mem_cons_of_mem _ (List.mem_cons_of_mem _ (List.mem_cons_of_mem _ List.mem_cons_self)))) | (apply Fr.setNew; (first | omega | (simp; omega)))))
  clear hW
  refine wp_region_soft (by kernel_rfl) (by kernel_rfl) ?_; (repeat (refine wpQuiet_step (fun K hK => ?_); (first | ((fail); go_simp; refine hK _ ?_; clear hK K) | (apply soft_do; (rfl); (focus (intro W hC; (have q5 := ((Blk.via hC (by simp) (Blk.via F0 (by simp) HP.out.blk)).cell 5).trans HP.out.c5); go_simp; (first | (first | (go_at_call 85; refine (key_book _ _).mono ?_; rintro e w2 ⟨rfl, hf⟩; exact ⟨rfl, hC.trans hf⟩) | (go_at_call 84; refine (HGet.out _ (F0.trans hC)).mono ?_; rintro e w2 ⟨rfl, hf⟩; exact ⟨rfl, hC.trans hf⟩)) | done | rfl | exact ⟨rfl, rfl⟩))); (go_simp; refine hK _ ?_; clear hK K)) | (apply soft_skip; (rfl); (go_simp; refine hK _ ?_; clear hK K))))); refine wpQuiet_nil ?_
  intro w2 F2
  have B2 : Blk w2 w.heap.size 43 ord0.a := Blk.via F2 (by simp) B0
  have F02 := F0.trans F2
  clear B0 F2 F0 HGet
  go_wp2_with (first
    | (refine wpList_loadO rfl (.tmp 4) rfl w.heap.size ord0 rfl B2 ?_)
    | (refine wpList_storeO rfl (.tmp 4) (.tmp 22) rfl w.heap.size _ ord0 rfl rfl B2 rfl ?_
       intro w5 B5 F5))
  have c5 := B5.cell
  exact bodyPost_ret (v := .tuple #[.agg ord0.a, .int .i64 0, .bool false]) (by simp [results, Try.results90, go_sem, c5]) rfl ⟨rfl, fr_fresh2 (Nat.le_refl _) F02 F5⟩
end

theorem bookGet_core (w : World) (b : Nat) (id : Int) (o : Ord) (sl : Int) (r : Bool) (hf : ∀ W, Fr [] w W → Calls Try.prog 90 #[.pointer (some ⟨b, 0, none⟩), .int .i64 id] W fun e w' => e = .returned (.tuple #[.agg o.a, .int .i64 sl, .bool r]) ∧ Fr [] W w') :
    Calls Try.prog 27 #[.pointer (some ⟨b, 0, none⟩), .int .i64 id] w fun e w' => e = .returned (.tuple #[.agg o.a, .bool r]) ∧ Fr [] w w' := by
  have HF := Lib.hid hf
  clear hf
  go_enter Try.func27, Try.ntmps27
  go_wp2_with fail
  refine calls_named (fun W0 hW => ?_)
  have B0 := Blk.box0 hW
  have F0 : Fr [] w W0 := Fr.eqv hW (by with_reducible repeat (first | exact Fr.refl _ _ | assumption | apply Fr.drew | apply Fr.drewN | apply Fr.alloc | (apply Fr.step; assumption; (intro _ h; (first | exact h | (focus (simp_all; done))))) | (apply Fr.setIn; (first | exact List.mem_cons_self | exact List.mem_cons_of_mem _ List.mem_cons_self | exact List.mem_cons_of_mem _ (List.mem_cons_of_mem _ List.mem_cons_self) | exact List.mem_cons_of_mem _ (List.mem_cons_of_mem _ (List.mem_cons_of_mem _ List.mem_cons_self)))) | (apply Fr.setNew; (first | omega | (simp; omega)))))
  clear hW
  refine (HF.out _ F0).mono ?_
  rintro e w1 ⟨rfl, F⟩
  have B1 := Blk.via F (by simp) B0
  have F1 := F0.trans F
  clear F B0 F0
  go_wp2_with (refine wpList_storeO rfl (.tmp 4) (.tmp 16) rfl w.heap.size _ o rfl rfl (B1.alloc _) rfl ?_
               intro w3 B3 F3)
  have c3 := B3.cell
  exact bodyPost_ret (v := .tuple #[.agg o.a, .bool r]) (by simp [results, Try.results27, go_sem, c3]) rfl ⟨rfl, fr_fresh2 (Nat.le_refl _) (F1.alloc _) F3⟩

theorem pick_mem {w : World} {b ba bi bs bm so lp bq bn be : Nat} {v : Value} {bc : Array Value} {D : List Nat} {N K : Nat} {fl : List Nat} {m : Nat → Option Ord} {ix : Int → Option Nat} {T : List Nat} {ord : Nat → Ord} {s : Int}
    (P : Pick w b ba bi bs bm so lp bq bn be v bc D N K fl m ix T ord s) {id : Int} (h : ∀ x ∈ T.map ord, x.id ≠ id) : ix id = none := by
  cases hh : ix id with
  | none => rfl
  | some s =>
    obtain ⟨h1, h2⟩ := (P.ids id s).1 hh
    exact absurd h2 (h _ (List.mem_map.2 ⟨s, h1, rfl⟩))
theorem bookGet_has (w : World) (b : Nat) (D : List Nat) (N K : Nat) (L : List Ord) (h : BookI w b D N K L) (o : Ord) (ho : o ∈ L) :
    Calls Try.prog 27 #[.pointer (some ⟨b, 0, none⟩), .int .i64 o.id] w fun e w' => e = .returned (.tuple #[.agg o.a, .bool true]) ∧ Fr [] w w' := by
  obtain ⟨ba, bi, bs, bm, so, lp, bq, bn, be, v, bc, fl, m, ix, T, ord, P, rfl⟩ := h.pick 0 (.inl rfl)
  obtain ⟨i, hi, rfl⟩ := List.mem_map.1 ho
  exact bookGet_core w b (ord i).id (ord i) i true fun W hf => bkFind_has (P.fr hf) i hi
theorem bookGet_no (w : World) (b : Nat) (D : List Nat) (N K : Nat) (L : List Ord) (h : BookI w b D N K L) (id : Int) (hid : ∀ x ∈ L, x.id ≠ id) :
    Calls Try.prog 27 #[.pointer (some ⟨b, 0, none⟩), .int .i64 id] w fun e w' => e = .returned (.tuple #[.agg ord0.a, .bool false]) ∧ Fr [] w w' := by
  obtain ⟨ba, bi, bs, bm, so, lp, bq, bn, be, v, bc, fl, m, ix, T, ord, P, rfl⟩ := h.pick 0 (.inl rfl)
  exact bookGet_core w b id ord0 0 false fun W hf => bkFind_no (P.fr hf) id (pick_mem P hid)
end Go.Proofs.Ytkimldeagndgjaa

/- A book: an order goes, walked. -/
namespace Go.Proofs.Ytkimldeagndgjaa
set_option linter.unusedVariables false
set_option linter.unusedSimpArgs false
open Go.RowKit

section
variable {w : World} {b ba bi bs bm so lp bq bn be : Nat} {v : Value} {bc : Array Value} {D : List Nat} {N K : Nat} {fl : List Nat} {m : Nat → Option Ord} {ix : Int → Option Nat} {T : List Nat} {ord : Nat → Ord} {s : Int}
theorem Pick.lessOf (P : Pick w b ba bi bs bm so lp bq bn be v bc D N K fl m ix T ord s) {i : Nat} (hi : i ∈ T) :
    Times N (less T i) ord ∧ (∀ j, j ∈ less T i → updO m i none j = some (ord j)) ∧ (∀ j, j ∉ less T i → updO m i none j = none) ∧ (∀ id s, updm ix (ord i).id none id = some s ↔ s ∈ less T i ∧ (ord s).id = id) ∧ (less T i).length + (i :: fl).length = N ∧ (less T i).length = T.length - 1 := by
  obtain ⟨A, B, hAB⟩ := List.append_of_mem hi
  have hl := less_split P.t.nd hAB
  have hlen : (less T i).length = T.length - 1 := by rw [hl, hAB]; simp
  have hpos : 1 ≤ T.length := by rw [hAB]; simp; omega
  have hPl := P.len
  refine ⟨⟨P.t.nd.filter _, fun j hj => P.t.lt j (less_mem.1 hj).1, fun j hj => P.t.good j (less_mem.1 hj).1, P.t.N2⟩, ?_, ?_, ?_, by simp; omega, hlen⟩
  · intro j hj
    obtain ⟨h1, h2⟩ := less_mem.1 hj
    rw [updO_ne h2]; exact P.mt j h1
  · intro j hj
    by_cases c : j = i
    · rw [c, updO_same]
    · rw [updO_ne c]; exact P.mn j fun h => hj (less_mem.2 ⟨h, c⟩)
  · intro id s
    unfold updm
    by_cases c : id = (ord i).id
    · rw [if_pos c]
      refine ⟨fun h => (by cases h), fun ⟨h1, h2⟩ => ?_⟩
      exfalso
      obtain ⟨h3, h4⟩ := less_mem.1 h1
      have e1 := (P.ids id s).2 ⟨h3, h2⟩
      have e2 := (P.ids id i).2 ⟨hi, c.symm⟩
      rw [e1] at e2
      injection e2 with e2
      exact h4 e2
    · rw [if_neg c, P.ids id s]
      constructor
      · rintro ⟨h1, h2⟩
        exact ⟨less_mem.2 ⟨h1, fun e => c (by rw [← h2, e])⟩, h2⟩
      · rintro ⟨h1, h2⟩
        exact ⟨(less_mem.1 h1).1, h2⟩

set_option maxHeartbeats 2000000 in
theorem bkGone (P : Pick w b ba bi bs bm so lp bq bn be v bc D N K fl m ix T ord s) (i : Nat) (hi : i ∈ T) (hs : (ord i).sd = s) (o : Ord) (h1 : o.sd = s) (h2 : o.pr = (ord i).pr) (h3 : o.id = (ord i).id) :
    Calls Try.prog 91 #[.pointer (some ⟨b, 0, none⟩), .agg o.a, .int .i64 i, .int .i64 (ord i).qt] w fun e w' => e = .returned (.tuple #[]) ∧ Fr D w w' ∧ BookI w' b D N K ((less T i).map ord) := by
  have HP := Lib.hid P
  have HI := Lib.hid hi
  have HS := Lib.hid hs
  have HO := Lib.hid P.of
  have nds := P.nd
  have hlt := P.lt
  have hsub := P.sub
  simp only [sideD, List.cons_append, List.nil_append, List.nodup_cons, List.mem_cons, not_or] at nds
  obtain ⟨⟨d1, d2, d3, d4, d5, d6, d7, d8, d9⟩, ⟨e2, e3, e4, e5, e6, e7, e8, e9⟩, ⟨f3, f4, f5, f6, f7, f8, f9⟩, ⟨g4, g5, g6, g7, g8, g9⟩, ⟨h5, h6, h7, h8, h9⟩, ⟨i6, i7, i8, i9⟩, ⟨j7, j8, j9⟩, ⟨k8, k9⟩, l9, _⟩ := nds
  have HLT := Lib.hid (fun x hx => hlt x (hsub x hx))
  have ltb := P.blk.lt
  have HW := Lib.hid (fun x hx (e : w.heap.size = x) => by have := HLT.out x hx; omega : ∀ x, x ∈ [b, ba, bi, bs, bm] ++ sideD lp v bq bn be → w.heap.size ≠ x)
  have H1 := Lib.hid h1
  have H2 := Lib.hid h2
  have H3 := Lib.hid h3
  clear P hi hs hlt hsub h1 h2 h3
  go_enter Try.func91, Try.ntmps91
  go_wp2_with fail
  refine calls_named (fun W0 hW => ?_)
  have B0 := Blk.box0 hW
  have F0 : Fr [] w W0 := Fr.eqv hW (by with_reducible repeat (first | exact Fr.refl _ _ | assumption | apply Fr.drew | apply Fr.drewN | apply Fr.alloc | (apply Fr.step; assumption; (intro _ h; (first | exact h | (focus (simp_all; done))))) | (apply Fr.setIn; (first | exact List.mem_cons_self | exact List.mem_cons_of_mem _ List.mem_cons_self | exact List.mem_cons_of_mem _ (List.mem_cons_of_mem _ List.mem_cons_self) | exact List.mem_cons_of_mem _ (List.mem_cons_of_mem _ (List.mem_cons_of_mem _ List.mem_cons_self)))) | (apply Fr.setNew; (first | omega | (simp; omega)))))
  have P0 := HP.out.fr F0
  clear hW
  rw [H1.out]
  refine (HO.out W0).mono ?_
  rintro e w1 ⟨rfl, rfl⟩
  have q2 := (P0.blk.cell (so + 1)).trans P0.c2
  have HP0 := Lib.hid P0
  clear P0
  go_wp2_with fail
  refine (side_rem W0 s lp v bq bn be N K T ord HP0.out.sd HP0.out.t i HI.out HS.out).mono ?_
  rintro e w2 ⟨⟨k, rfl⟩, F2, HR⟩
  have HHR := Lib.hid HR
  have B2 := Blk.via F2 (by simp only [List.mem_cons, List.not_mem_nil, or_false, not_or]; exact ⟨HW.out bn (by simp [sideD]), HW.out be (by simp [sideD])⟩) B0
  have K2 := Blk.via F2 (by simp only [List.mem_cons, List.not_mem_nil, or_false, not_or]; exact ⟨d7, d8⟩) HP0.out.blk
  clear q2 HR
  go_wp2_with fail
  refine u_region (S := fun w' => (∀ i, w'.cell? ⟨w.heap.size, i, none⟩ = (o.a)[i]?) ∧ w'.cell? ⟨b, so, none⟩ = some (.pointer (some ⟨lp, 0, none⟩))) 7 (by kernel_rfl) (by kernel_rfl) (by kernel_rfl) (by kernel_rfl) (by kernel_rfl) ⟨fun i => B2.drew.cell i, (K2.drew.cell so).trans HP0.out.c1⟩ ?_
  (refine u_take 0 (v := ?_) rfl rfl (by kernel_rfl) (by kernel_rfl) (fun _ _ _ h => h) (Or.inl ⟨by rfl, ?_⟩) ?_; rotate_left; (focus (intro wz hSw; (try dsimp only at hSw); go_simp; (try with_reducible rfl))); (try simp only [Act.put, List.getElem_toArray, List.getElem_cons_succ, List.getElem_cons_zero, List.setIfInBounds_toArray, List.set_cons_zero, List.set_cons_succ]))
  (refine u_take 1 (v := ?_) rfl rfl (by kernel_rfl) (by kernel_rfl) (fun _ _ _ h => h) (Or.inl ⟨by rfl, ?_⟩) ?_; rotate_left; (focus (intro wz hSw; (try dsimp only at hSw); go_simp; (try with_reducible rfl))); (try simp only [Act.put, List.getElem_toArray, List.getElem_cons_succ, List.getElem_cons_zero, List.setIfInBounds_toArray, List.set_cons_zero, List.set_cons_succ]))
  (refine u_take 2 (v := ?_) rfl rfl (by kernel_rfl) (by kernel_rfl) (fun _ _ _ h => h) (Or.inl ⟨by rfl, ?_⟩) ?_; rotate_left; (focus (intro wz hSw; (try dsimp only at hSw); go_simp; (try with_reducible rfl))); (try simp only [Act.put, List.getElem_toArray, List.getElem_cons_succ, List.getElem_cons_zero, List.setIfInBounds_toArray, List.set_cons_zero, List.set_cons_succ]))
  (refine u_take 3 (v := ?_) rfl rfl (by kernel_rfl) (by kernel_rfl) (fun _ _ _ h => h) (Or.inl ⟨by rfl, ?_⟩) ?_; rotate_left; (focus (intro wz hSw; (try dsimp only at hSw); go_simp; (try with_reducible rfl))); (try simp only [Act.put, List.getElem_toArray, List.getElem_cons_succ, List.getElem_cons_zero, List.setIfInBounds_toArray, List.set_cons_zero, List.set_cons_succ]))
  (refine u_take 4 (v := ?_) rfl rfl (by kernel_rfl) (by kernel_rfl) (fun _ _ _ h => h) (Or.inl ⟨by rfl, ?_⟩) ?_; rotate_left; (focus (intro wz hSw; (try dsimp only at hSw); go_simp; (try with_reducible rfl))); (try simp only [Act.put, List.getElem_toArray, List.getElem_cons_succ, List.getElem_cons_zero, List.setIfInBounds_toArray, List.set_cons_zero, List.set_cons_succ]))
  (refine u_take 5 (v := ?_) rfl rfl (by kernel_rfl) (by kernel_rfl) (fun _ _ _ h => h) (Or.inl ⟨by rfl, ?_⟩) ?_; rotate_left; (focus (intro wz hSw; (try dsimp only at hSw); go_simp; (try with_reducible rfl))); (try simp only [Act.put, List.getElem_toArray, List.getElem_cons_succ, List.getElem_cons_zero, List.setIfInBounds_toArray, List.set_cons_zero, List.set_cons_succ]))
  (refine u_take 6 (v := ?_) rfl rfl (by kernel_rfl) (by kernel_rfl) (fun _ _ _ h => h) (Or.inl ⟨by rfl, ?_⟩) ?_; rotate_left; (focus (intro wz hSw; (try dsimp only at hSw); go_simp; (try with_reducible rfl))); (try simp only [Act.put, List.getElem_toArray, List.getElem_cons_succ, List.getElem_cons_zero, List.setIfInBounds_toArray, List.set_cons_zero, List.set_cons_succ]))
  refine u_last (by kernel_rfl) rfl (by kernel_rfl) ?_
  go_wp2_with fail
  rw [H2.out]
  refine (side_take w2.drew s lp v bq bn be N K i T ord (HHR.out.fr (S := []) (Fr.drew (Fr.refl _ _)) (by simp) (by simp) (by simp) (by simp) (by simp)) HP0.out.t).mono ?_
  rintro e w3 ⟨k', v', rfl, F3, hv', S3⟩
  have F23 : Fr (lp :: v.ownBlock.toList) w2 w3 := (Fr.drew (Fr.refl _ _)).trans F3
  have B3 := Blk.via F23 (by simp only [List.mem_cons, not_or]; exact ⟨HW.out lp (by simp [sideD]), fun hm => HW.out w.heap.size (by simp only [sideD, List.mem_append, List.mem_cons]; exact .inr (.inr (.inr (.inr (.inr hm))))) rfl⟩) B2
  have K3 := Blk.via F23 (by simp only [List.mem_cons, not_or]; exact ⟨d5, d9⟩) K2
  have HS3 := Lib.hid S3
  have HV3 := Lib.hid hv'
  have q0 := (K3.cell 0).trans HP0.out.c0
  have A3 : ArI w3 ba N fl m := (HP0.out.a.fr F2 (by simp only [List.mem_cons, List.not_mem_nil, or_false, not_or]; exact ⟨e7, e8⟩)).fr F23 (by simp only [List.mem_cons, not_or]; exact ⟨e5, e9⟩)
  clear S3 hv' B2 K2 F3
  go_wp2_with fail
  refine (arDrop_has w3 ba N i fl m A3 (ord i) (HP.out.mt i HI.out)).mono ?_
  rintro e w4 ⟨rfl, F4, A4⟩
  have B4 := Blk.via F4 (by simpa using HW.out ba (by simp)) B3
  have K4 := Blk.via F4 (by simpa using d1) K3
  have HA4 := Lib.hid A4
  clear B3 K3 q0 A3 A4
  go_wp2_with fail
  refine u_region (S := fun w' => (∀ i, w'.cell? ⟨w.heap.size, i, none⟩ = (o.a)[i]?) ∧ w'.cell? ⟨b, 5, none⟩ = some (.pointer (some ⟨bi, 0, none⟩))) 7 (by kernel_rfl) (by kernel_rfl) (by kernel_rfl) (by kernel_rfl) (by kernel_rfl) ⟨fun i => B4.drew.cell i, (K4.drew.cell 5).trans HP0.out.c5⟩ ?_
  (refine u_take 0 (v := ?_) rfl rfl (by kernel_rfl) (by kernel_rfl) (fun _ _ _ h => h) (Or.inl ⟨by rfl, ?_⟩) ?_; rotate_left; (focus (intro wz hSw; (try dsimp only at hSw); go_simp; (try with_reducible rfl))); (try simp only [Act.put, List.getElem_toArray, List.getElem_cons_succ, List.getElem_cons_zero, List.setIfInBounds_toArray, List.set_cons_zero, List.set_cons_succ]))
  (refine u_take 1 (v := ?_) rfl rfl (by kernel_rfl) (by kernel_rfl) (fun _ _ _ h => h) (Or.inl ⟨by rfl, ?_⟩) ?_; rotate_left; (focus (intro wz hSw; (try dsimp only at hSw); go_simp; (try with_reducible rfl))); (try simp only [Act.put, List.getElem_toArray, List.getElem_cons_succ, List.getElem_cons_zero, List.setIfInBounds_toArray, List.set_cons_zero, List.set_cons_succ]))
  (refine u_take 2 (v := ?_) rfl rfl (by kernel_rfl) (by kernel_rfl) (fun _ _ _ h => h) (Or.inl ⟨by rfl, ?_⟩) ?_; rotate_left; (focus (intro wz hSw; (try dsimp only at hSw); go_simp; (try with_reducible rfl))); (try simp only [Act.put, List.getElem_toArray, List.getElem_cons_succ, List.getElem_cons_zero, List.setIfInBounds_toArray, List.set_cons_zero, List.set_cons_succ]))
  (refine u_take 3 (v := ?_) rfl rfl (by kernel_rfl) (by kernel_rfl) (fun _ _ _ h => h) (Or.inl ⟨by rfl, ?_⟩) ?_; rotate_left; (focus (intro wz hSw; (try dsimp only at hSw); go_simp; (try with_reducible rfl))); (try simp only [Act.put, List.getElem_toArray, List.getElem_cons_succ, List.getElem_cons_zero, List.setIfInBounds_toArray, List.set_cons_zero, List.set_cons_succ]))
  (refine u_take 4 (v := ?_) rfl rfl (by kernel_rfl) (by kernel_rfl) (fun _ _ _ h => h) (Or.inl ⟨by rfl, ?_⟩) ?_; rotate_left; (focus (intro wz hSw; (try dsimp only at hSw); go_simp; (try with_reducible rfl))); (try simp only [Act.put, List.getElem_toArray, List.getElem_cons_succ, List.getElem_cons_zero, List.setIfInBounds_toArray, List.set_cons_zero, List.set_cons_succ]))
  (refine u_take 5 (v := ?_) rfl rfl (by kernel_rfl) (by kernel_rfl) (fun _ _ _ h => h) (Or.inl ⟨by rfl, ?_⟩) ?_; rotate_left; (focus (intro wz hSw; (try dsimp only at hSw); go_simp; (try with_reducible rfl))); (try simp only [Act.put, List.getElem_toArray, List.getElem_cons_succ, List.getElem_cons_zero, List.setIfInBounds_toArray, List.set_cons_zero, List.set_cons_succ]))
  refine u_one 6 (by kernel_rfl) rfl rfl (fun Kq hKq => ?_)
  go_simp
  refine (key_book _ _).mono ?_
  rintro e w5 ⟨rfl, F5⟩
  have F45 : Fr [] w4 w5 := (Fr.drew (Fr.refl _ _)).trans F5
  have B5 := Blk.via F45 (by simp) B4
  have K5 := Blk.via F45 (by simp) K4
  refine hKq _ _ ⟨fun i => B5.cell i, (K5.cell 5).trans HP0.out.c5⟩ ?_
  clear hKq Kq
  (try simp only [Act.put, List.getElem_toArray, List.getElem_cons_succ, List.getElem_cons_zero, List.setIfInBounds_toArray, List.set_cons_zero, List.set_cons_succ])
  refine u_last (by kernel_rfl) rfl (by kernel_rfl) ?_
  clear F5 B4 K4
  go_wp2_with fail
  have F05 : Fr (ba :: bn :: be :: lp :: v.ownBlock.toList) W0 w5 := (((F2.mono (by simp)).trans (F23.mono (by simp +contextual))).trans (F4.mono (by simp))).trans (F45.mono (by simp))
  have nF : ∀ x, x ≠ ba → x ≠ bn → x ≠ be → x ≠ lp → x ∉ v.ownBlock.toList → x ∉ ba :: bn :: be :: lp :: v.ownBlock.toList := fun x a1 a2 a3 a4 a5 hm => by
    simp only [List.mem_cons] at hm
    rcases hm with e | e | e | e | e
    · exact a1 e
    · exact a2 e
    · exact a3 e
    · exact a4 e
    · exact a5 e
  have X5 := HP0.out.x.fr F05 (nF bi (Ne.symm e2) f7 f8 f5 f9) (nF bs (Ne.symm e3) g7 g8 g5 g9) (nF bm (Ne.symm e4) h7 h8 h5 h9)
  rw [H3.out]
  refine (ixDrop_has w5 bi bs bm T.length ix X5 (ord i).id i ((HP.out.ids _ i).2 ⟨HI.out, rfl⟩)).mono ?_
  rintro e w6 ⟨rfl, F6, X6, hT1⟩
  go_wp2_with fail
  have F06 : Fr (ba :: bs :: bm :: sideD lp v bq bn be) w w6 := by
    refine ((F0.mono (by simp)).trans (F05.mono fun x hx => ?_)).trans (F6.mono fun x hx => ?_)
    · simp only [List.mem_cons, sideD] at hx ⊢
      rcases hx with e | e | e | e | e <;> simp [e]
    · simp only [List.mem_cons, List.not_mem_nil, or_false] at hx
      rcases hx with e | e <;> simp [e]
  have F46 : Fr [bs, bm] w4 w6 := (F45.mono (by simp)).trans F6
  have F36 : Fr [ba, bs, bm] w3 w6 := (F4.mono (by simp)).trans (F46.mono (by simp))
  have A6 := HA4.out.fr F46 (by simp only [List.mem_cons, List.not_mem_nil, or_false, not_or]; exact ⟨e3, e4⟩)
  have S6 := HS3.out.fr F36 (by simp only [List.mem_cons, List.not_mem_nil, or_false, not_or]; exact ⟨Ne.symm e5, Ne.symm g5, Ne.symm h5⟩) (fun g hg hm => by
    rw [HV3.out] at hg
    simp only [List.mem_cons, List.not_mem_nil, or_false] at hm
    rcases hm with rfl | rfl | rfl
    · exact e9 (by simp [hg])
    · exact g9 (by simp [hg])
    · exact h9 (by simp [hg])) (by simp only [List.mem_cons, List.not_mem_nil, or_false, not_or]; exact ⟨Ne.symm e6, Ne.symm g6, Ne.symm h6⟩) (by simp only [List.mem_cons, List.not_mem_nil, or_false, not_or]; exact ⟨Ne.symm e7, Ne.symm g7, Ne.symm h7⟩) (by simp only [List.mem_cons, List.not_mem_nil, or_false, not_or]; exact ⟨Ne.symm e8, Ne.symm g8, Ne.symm h8⟩)
  obtain ⟨t', mt', mn', ids', len', ll'⟩ := HP.out.lessOf HI.out
  go_end0
  exact ⟨rfl, HP.out.frD F06 (fun _ h => h), HP.out.back w6 _ v' (i :: fl) _ _ _ _ F06 (fun _ h => h) HV3.out A6 (ll' ▸ X6) S6 (fun w lp v bq bn be h => h.skipRem (by rw [HS.out]; rcases HP.out.t.good i HI.out |>.sd with e | e <;> rw [HS.out] at e <;> rw [e] <;> decide)) t' mt' mn' ids' len'⟩
end
end Go.Proofs.Ytkimldeagndgjaa

/- A book: Remove, Reduce, walked. -/
namespace Go.Proofs.Ytkimldeagndgjaa
set_option linter.unusedVariables false
set_option linter.unusedSimpArgs false
open Go.RowKit

/-- A list of orders without that of an ID; .. with less of it. -/
def rmv (id : Int) (L : List Ord) : List Ord := L.filter fun x => decide (x.id ≠ id)
def red (id y : Int) (L : List Ord) : List Ord := L.map fun x => if x.id = id then { x with qt := x.qt - y } else x

section
variable {w : World} {b ba bi bs bm so lp bq bn be : Nat} {v : Value} {bc : Array Value} {D : List Nat} {N K : Nat} {fl : List Nat} {m : Nat → Option Ord} {ix : Int → Option Nat} {T : List Nat} {ord : Nat → Ord} {s : Int}
theorem Pick.idne (P : Pick w b ba bi bs bm so lp bq bn be v bc D N K fl m ix T ord s) {i j : Nat} (hi : i ∈ T) (hj : j ∈ T) : (ord i).id = (ord j).id ↔ i = j := by
  constructor
  · intro h
    have e1 := (P.ids (ord j).id i).2 ⟨hi, h⟩
    have e2 := (P.ids (ord j).id j).2 ⟨hj, rfl⟩
    rw [e1] at e2
    injection e2
  · rintro rfl; rfl
theorem Pick.rmv (P : Pick w b ba bi bs bm so lp bq bn be v bc D N K fl m ix T ord s) {i : Nat} (hi : i ∈ T) : (less T i).map ord = Go.Proofs.Ytkimldeagndgjaa.rmv (ord i).id (T.map ord) := by
  unfold Go.Proofs.Ytkimldeagndgjaa.rmv less
  rw [List.filter_map]
  congr 1
  refine List.filter_congr fun a ha => ?_
  have := P.idne ha hi
  simp [this]
theorem Pick.red (P : Pick w b ba bi bs bm so lp bq bn be v bc D N K fl m ix T ord s) {i : Nat} (hi : i ∈ T) (y : Int) : T.map (updO ord i { ord i with qt := (ord i).qt - y }) = Go.Proofs.Ytkimldeagndgjaa.red (ord i).id y (T.map ord) := by
  unfold Go.Proofs.Ytkimldeagndgjaa.red
  rw [List.map_map]
  refine List.map_congr_left fun a ha => ?_
  have := P.idne ha hi
  by_cases c : a = i
  · subst c; rw [updO_same]; simp
  · rw [updO_ne c]; simp [this, c]
end

set_option maxHeartbeats 1000000 in
theorem bookRemove_has (w : World) (b : Nat) (D : List Nat) (N K : Nat) (L : List Ord) (h : BookI w b D N K L) (o : Ord) (ho : o ∈ L) :
    Calls Try.prog 26 #[.pointer (some ⟨b, 0, none⟩), .int .i64 o.id] w fun e w' => e = .returned (.tuple #[.agg o.a, .int .i64 0]) ∧ Fr D w w' ∧ BookI w' b D N K (rmv o.id L) := by
  have hsd : o.sd = 0 ∨ o.sd = 1 := by
    obtain ⟨ba, bi, bs, bm, so, lp, bq, bn, be, v, bc, fl, m, ix, T, ord, P, rfl⟩ := h.pick 0 (.inl rfl)
    obtain ⟨i, hi, rfl⟩ := List.mem_map.1 ho
    exact (P.t.good i hi).sd
  obtain ⟨ba, bi, bs, bm, so, lp, bq, bn, be, v, bc, fl, m, ix, T, ord, P, rfl⟩ := h.pick o.sd hsd
  obtain ⟨i, hi, rfl⟩ := List.mem_map.1 ho
  rw [← P.rmv hi]
  have HP := Lib.hid P
  have HI := Lib.hid hi
  clear P hi hsd h ho
  go_enter Try.func26, Try.ntmps26
  go_wp2_with fail
  refine calls_named (fun W0 hW => ?_)
  have B0 := Blk.box0 hW
  have F0 : Fr [] w W0 := Fr.eqv hW (by with_reducible repeat (first | exact Fr.refl _ _ | assumption | apply Fr.drew | apply Fr.drewN | apply Fr.alloc | (apply Fr.step; assumption; (intro _ h; (first | exact h | (focus (simp_all; done))))) | (apply Fr.setIn; (first | exact List.mem_cons_self | exact List.mem_cons_of_mem _ List.mem_cons_self | exact List.mem_cons_of_mem _ (List.mem_cons_of_mem _ List.mem_cons_self) | exact List.mem_cons_of_mem _ (List.mem_cons_of_mem _ (List.mem_cons_of_mem _ List.mem_cons_self)))) | (apply Fr.setNew; (first | omega | (simp; omega)))))
  clear hW
  refine (bkFind_has (HP.out.fr F0) i HI.out).mono ?_
  rintro e w1 ⟨rfl, F⟩
  have B1 := Blk.via F (by simp) B0
  have F1 := F0.trans F
  clear F B0 F0
  go_wp2_with fail
  refine calls_named (fun W2 hW => ?_)
  have B2 : Blk W2 w1.heap.size 43 (ord i).a := Blk.box0 hW
  have C2 := Blk.eqv hW (B1.alloc _)
  have F2 : Fr [] w W2 := Fr.eqv hW (F1.alloc _)
  clear hW B1
  refine (bkGone (HP.out.fr F2) i HI.out rfl (ord i) rfl rfl rfl).mono ?_
  rintro e w3 ⟨rfl, F3, I3⟩
  have s1 := F1.size
  have hDl : ∀ x ∈ D, x < w.heap.size := HP.out.lt
  have B3 := Blk.via F3 (fun hm => by have := hDl _ hm; omega) B2
  have C3 := Blk.via F3 (fun hm => by have := hDl _ hm; omega) C2
  have HF3 := Lib.hid F3
  have HI3 := Lib.hid I3
  clear B2 C2 F3 I3
  go_wp2_with (first
    | (refine wpList_loadO rfl (.tmp 6) rfl w1.heap.size (ord i) rfl B3 ?_)
    | (refine wpList_storeO rfl (.tmp 4) (.tmp 28) rfl w.heap.size _ (ord i) rfl rfl C3 rfl ?_
       intro w5 B5 F5))
  have c5 := B5.cell
  refine bodyPost_ret (v := .tuple #[.agg (ord i).a, .int .i64 0]) (by simp [results, Try.results26, go_sem, c5]) rfl ⟨rfl, ?_, HI3.out.fr F5 (fun x hx hm => by have := hDl x hx; rw [List.mem_singleton.1 hm] at this; omega)⟩
  have FA : Fr D w w3 := (F2.mono (by simp)).trans HF3.out
  exact ⟨F5.os.trans FA.os, F5.tape.trans FA.tape, F5.output.trans FA.output, Nat.le_trans FA.size F5.size, fun k hk hn => (F5.block k (Nat.lt_of_lt_of_le hk FA.size) (by simp; omega)).trans (FA.block k hk hn)⟩

theorem bookFind_no (w : World) (b : Nat) (D : List Nat) (N K : Nat) (L : List Ord) (h : BookI w b D N K L) (id : Int) (hid : ∀ x ∈ L, x.id ≠ id) :
    Calls Try.prog 90 #[.pointer (some ⟨b, 0, none⟩), .int .i64 id] w fun e w' => e = .returned (.tuple #[.agg ord0.a, .int .i64 0, .bool false]) ∧ Fr [] w w' := by
  obtain ⟨ba, bi, bs, bm, so, lp, bq, bn, be, v, bc, fl, m, ix, T, ord, P, rfl⟩ := h.pick 0 (.inl rfl)
  exact bkFind_no P id (pick_mem P hid)

set_option maxHeartbeats 1000000 in
theorem bookRemove_no (w : World) (b : Nat) (D : List Nat) (N K : Nat) (L : List Ord) (h : BookI w b D N K L) (id : Int) (hid : ∀ x ∈ L, x.id ≠ id) :
    Calls Try.prog 26 #[.pointer (some ⟨b, 0, none⟩), .int .i64 id] w fun e w' => e = .returned (.tuple #[.agg ord0.a, .int .i64 5]) ∧ Fr [] w w' := by
  have HF := Lib.hid (fun W (hf : Fr [] w W) => bookFind_no W b D N K L (h.fr hf (by simp)) id hid)
  clear h hid
  go_enter Try.func26, Try.ntmps26
  go_wp2_with fail
  refine calls_named (fun W0 hW => ?_)
  have B0 := Blk.box0 hW
  have F0 : Fr [] w W0 := Fr.eqv hW (by with_reducible repeat (first | exact Fr.refl _ _ | assumption | apply Fr.drew | apply Fr.drewN | apply Fr.alloc | (apply Fr.step; assumption; (intro _ h; (first | exact h | (focus (simp_all; done))))) | (apply Fr.setIn; (first | exact List.mem_cons_self | exact List.mem_cons_of_mem _ List.mem_cons_self | exact List.mem_cons_of_mem _ (List.mem_cons_of_mem _ List.mem_cons_self) | exact List.mem_cons_of_mem _ (List.mem_cons_of_mem _ (List.mem_cons_of_mem _ List.mem_cons_self)))) | (apply Fr.setNew; (first | omega | (simp; omega)))))
  clear hW
  refine (HF.out _ F0).mono ?_
  rintro e w1 ⟨rfl, F⟩
  have B1 := Blk.via F (by simp) B0
  have F1 := F0.trans F
  clear F B0 F0
  go_wp2_with (refine wpList_storeO rfl (.tmp 4) (.tmp 21) rfl w.heap.size _ ord0 rfl rfl (B1.alloc _) rfl ?_
               intro w5 B5 F5)
  have c5 := B5.cell
  exact bodyPost_ret (v := .tuple #[.agg ord0.a, .int .i64 5]) (by simp [results, Try.results26, go_sem, c5]) rfl ⟨rfl, fr_fresh2 (Nat.le_refl _) (F1.alloc _) F5⟩
end Go.Proofs.Ytkimldeagndgjaa

/- A book: Reduce, walked. -/
namespace Go.Proofs.Ytkimldeagndgjaa
set_option linter.unusedVariables false
set_option linter.unusedSimpArgs false
open Go.RowKit

theorem fr_own {D : List Nat} {w w3 w' : World} {g : Nat} (hg : w.heap.size ≤ g) (FA : Fr D w w3) (F5 : Fr [g] w3 w') : Fr D w w' :=
  ⟨F5.os.trans FA.os, F5.tape.trans FA.tape, F5.output.trans FA.output, Nat.le_trans FA.size F5.size, fun k hk hn => (F5.block k (Nat.lt_of_lt_of_le hk FA.size) (by simp; omega)).trans (FA.block k hk hn)⟩

set_option maxHeartbeats 1000000 in
theorem bookReduce_no (w : World) (b : Nat) (D : List Nat) (N K : Nat) (L : List Ord) (h : BookI w b D N K L) (id y : Int) (hid : ∀ x ∈ L, x.id ≠ id) :
    Calls Try.prog 42 #[.pointer (some ⟨b, 0, none⟩), .int .i64 id, .int .i64 y] w fun e w' => e = .returned (.tuple #[.agg ord0.a, .int .i64 5]) ∧ Fr [] w w' := by
  have HF := Lib.hid (fun W (hf : Fr [] w W) => bookFind_no W b D N K L (h.fr hf (by simp)) id hid)
  clear h hid
  go_enter Try.func42, Try.ntmps42
  go_wp2_with fail
  refine calls_named (fun W0 hW => ?_)
  have B0 := Blk.box0 hW
  have F0 : Fr [] w W0 := Fr.eqv hW (by with_reducible repeat (first | exact Fr.refl _ _ | assumption | apply Fr.drew | apply Fr.drewN | apply Fr.alloc | (apply Fr.step; assumption; (intro _ h; (first | exact h | (focus (simp_all; done))))) | (apply Fr.setIn; (first | exact List.mem_cons_self | exact List.mem_cons_of_mem _ List.mem_cons_self | exact List.mem_cons_of_mem _ (List.mem_cons_of_mem _ List.mem_cons_self) | exact List.mem_cons_of_mem _ (List.mem_cons_of_mem _ (List.mem_cons_of_mem _ List.mem_cons_self)))) | (apply Fr.setNew; (first | omega | (simp; omega)))))
  clear hW
  refine (HF.out _ F0).mono ?_
  rintro e w1 ⟨rfl, F⟩
  have B1 := Blk.via F (by simp) B0
  have F1 := F0.trans F
  clear F B0 F0
  go_wp2_with (refine wpList_storeO rfl (.tmp 6) (.tmp 24) rfl w.heap.size _ ord0 rfl rfl (B1.alloc _) rfl ?_
               intro w5 B5 F5)
  have c5 := B5.cell
  exact bodyPost_ret (v := .tuple #[.agg ord0.a, .int .i64 5]) (by simp [results, Try.results42, go_sem, c5]) rfl ⟨rfl, fr_fresh2 (Nat.le_refl _) (F1.alloc _) F5⟩

set_option maxHeartbeats 1000000 in
theorem bookReduce_range (w : World) (b : Nat) (D : List Nat) (N K : Nat) (L : List Ord) (h : BookI w b D N K L) (o : Ord) (ho : o ∈ L) (y : Int) (hy : y < 1 ∨ o.qt < y) :
    Calls Try.prog 42 #[.pointer (some ⟨b, 0, none⟩), .int .i64 o.id, .int .i64 y] w fun e w' => e = .returned (.tuple #[.agg ord0.a, .int .i64 9]) ∧ Fr [] w w' := by
  obtain ⟨ba, bi, bs, bm, so, lp, bq, bn, be, v, bc, fl, m, ix, T, ord, P, rfl⟩ := h.pick 0 (.inl rfl)
  obtain ⟨i, hi, rfl⟩ := List.mem_map.1 ho
  have HF := Lib.hid (fun W (hf : Fr [] w W) => bkFind_has (P.fr hf) i hi)
  rcases (show y < 1 ∨ (¬ y < 1 ∧ (ord i).qt < y) by omega) with a1 | ⟨a1, a2⟩
  all_goals
    clear h P ho hi hy
    go_enter Try.func42, Try.ntmps42
    go_wp2_with fail
    refine calls_named (fun W0 hW => ?_)
    have B0 := Blk.box0 hW
    have F0 : Fr [] w W0 := Fr.eqv hW (by with_reducible repeat (first | exact Fr.refl _ _ | assumption | apply Fr.drew | apply Fr.drewN | apply Fr.alloc | (apply Fr.step; assumption; (intro _ h; (first | exact h | (focus (simp_all; done))))) | (apply Fr.setIn; (first | exact List.mem_cons_self | exact List.mem_cons_of_mem _ List.mem_cons_self | exact List.mem_cons_of_mem _ (List.mem_cons_of_mem _ List.mem_cons_self) | exact List.mem_cons_of_mem _ (List.mem_cons_of_mem _ (List.mem_cons_of_mem _ List.mem_cons_self)))) | (apply Fr.setNew; (first | omega | (simp; omega)))))
    clear hW
    refine (HF.out _ F0).mono ?_
    rintro e w1 ⟨rfl, F⟩
    have B1 := Blk.via F (by simp) B0
    have F1 := F0.trans F
    clear F B0 F0
    go_wp2_with (refine wpList_storeO rfl (.tmp 6) (.tmp 34) rfl w.heap.size _ ord0 rfl rfl (B1.alloc _) rfl ?_
                 intro w5 B5 F5)
    have c5 := B5.cell
    exact bodyPost_ret (v := .tuple #[.agg ord0.a, .int .i64 9]) (by simp [results, Try.results42, go_sem, c5]) rfl ⟨rfl, fr_fresh2 (Nat.le_refl _) (F1.alloc _) F5⟩

set_option maxHeartbeats 1000000 in
theorem bookReduce_all (w : World) (b : Nat) (D : List Nat) (N K : Nat) (L : List Ord) (h : BookI w b D N K L) (o : Ord) (ho : o ∈ L) :
    Calls Try.prog 42 #[.pointer (some ⟨b, 0, none⟩), .int .i64 o.id, .int .i64 o.qt] w fun e w' => e = .returned (.tuple #[.agg ({ o with qt := 0 } : Ord).a, .int .i64 0]) ∧ Fr D w w' ∧ BookI w' b D N K (rmv o.id L) := by
  have hsd : (o.sd = 0 ∨ o.sd = 1) ∧ (1 ≤ o.qt ∧ o.qt ≤ 4294967296) := by
    obtain ⟨ba, bi, bs, bm, so, lp, bq, bn, be, v, bc, fl, m, ix, T, ord, P, rfl⟩ := h.pick 0 (.inl rfl)
    obtain ⟨i, hi, rfl⟩ := List.mem_map.1 ho
    exact ⟨(P.t.good i hi).sd, (P.t.good i hi).qt⟩
  obtain ⟨ba, bi, bs, bm, so, lp, bq, bn, be, v, bc, fl, m, ix, T, ord, P, rfl⟩ := h.pick o.sd hsd.1
  obtain ⟨i, hi, rfl⟩ := List.mem_map.1 ho
  rw [← P.rmv hi]
  have HP := Lib.hid P
  have HI := Lib.hid hi
  have a1 : ¬ (ord i).qt < 1 := by omega
  have a2 : ¬ (ord i).qt < (ord i).qt := by omega
  have a3 : IntKind.i64.wrap ((ord i).qt - (ord i).qt) = 0 := by rw [Int.sub_self]; rfl
  clear P hi hsd h ho
  go_enter Try.func42, Try.ntmps42
  go_wp2_with fail
  refine calls_named (fun W0 hW => ?_)
  have B0 := Blk.box0 hW
  have F0 : Fr [] w W0 := Fr.eqv hW (by with_reducible repeat (first | exact Fr.refl _ _ | assumption | apply Fr.drew | apply Fr.drewN | apply Fr.alloc | (apply Fr.step; assumption; (intro _ h; (first | exact h | (focus (simp_all; done))))) | (apply Fr.setIn; (first | exact List.mem_cons_self | exact List.mem_cons_of_mem _ List.mem_cons_self | exact List.mem_cons_of_mem _ (List.mem_cons_of_mem _ List.mem_cons_self) | exact List.mem_cons_of_mem _ (List.mem_cons_of_mem _ (List.mem_cons_of_mem _ List.mem_cons_self)))) | (apply Fr.setNew; (first | omega | (simp; omega)))))
  clear hW
  refine (bkFind_has (HP.out.fr F0) i HI.out).mono ?_
  rintro e w1 ⟨rfl, F⟩
  have B1 := Blk.via F (by simp) B0
  have F1 := F0.trans F
  clear F B0 F0
  go_wp2_with fail
  refine calls_named (fun W2 hW => ?_)
  have B2 : Blk W2 w1.heap.size 43 ({ ord i with qt := 0 } : Ord).a := Blk.box0 hW
  have C2 := Blk.eqv hW (B1.alloc _)
  have F2 : Fr [] w W2 := Fr.eqv hW (F1.alloc _)
  clear hW B1
  refine (bkGone (HP.out.fr F2) i HI.out rfl ({ ord i with qt := 0 } : Ord) rfl rfl rfl).mono ?_
  rintro e w3 ⟨rfl, F3, I3⟩
  have s1 := F1.size
  have hDl : ∀ x ∈ D, x < w.heap.size := HP.out.lt
  have B3 := Blk.via F3 (fun hm => by have := hDl _ hm; omega) B2
  have C3 := Blk.via F3 (fun hm => by have := hDl _ hm; omega) C2
  have HF3 := Lib.hid F3
  have HI3 := Lib.hid I3
  clear B2 C2 F3 I3
  go_wp2_with (first
    | (refine wpList_loadO rfl (.tmp 8) rfl w1.heap.size ({ ord i with qt := 0 } : Ord) rfl B3 ?_)
    | (refine wpList_storeO rfl (.tmp 6) (.tmp 48) rfl w.heap.size _ ({ ord i with qt := 0 } : Ord) rfl rfl C3 rfl ?_
       intro w5 B5 F5))
  have c5 := B5.cell
  exact bodyPost_ret (v := .tuple #[.agg ({ ord i with qt := 0 } : Ord).a, .int .i64 0]) (by simp [results, Try.results42, go_sem, c5]) rfl ⟨rfl, fr_own (Nat.le_refl _) ((F2.mono (by simp)).trans HF3.out) F5, HI3.out.fr F5 (fun x hx hm => by have := hDl x hx; rw [List.mem_singleton.1 hm] at this; omega)⟩

set_option maxHeartbeats 2000000 in
theorem bookReduce_less (w : World) (b : Nat) (D : List Nat) (N K : Nat) (L : List Ord) (h : BookI w b D N K L) (o : Ord) (ho : o ∈ L) (y : Int) (hy : 1 ≤ y ∧ y < o.qt) :
    Calls Try.prog 42 #[.pointer (some ⟨b, 0, none⟩), .int .i64 o.id, .int .i64 y] w fun e w' => e = .returned (.tuple #[.agg ({ o with qt := o.qt - y } : Ord).a, .int .i64 0]) ∧ Fr D w w' ∧ BookI w' b D N K (red o.id y L) := by
  have hsd : (o.sd = 0 ∨ o.sd = 1) ∧ (1 ≤ o.qt ∧ o.qt ≤ 4294967296) := by
    obtain ⟨ba, bi, bs, bm, so, lp, bq, bn, be, v, bc, fl, m, ix, T, ord, P, rfl⟩ := h.pick 0 (.inl rfl)
    obtain ⟨i, hi, rfl⟩ := List.mem_map.1 ho
    exact ⟨(P.t.good i hi).sd, (P.t.good i hi).qt⟩
  obtain ⟨ba, bi, bs, bm, so, lp, bq, bn, be, v, bc, fl, m, ix, T, ord, P, rfl⟩ := h.pick o.sd hsd.1
  obtain ⟨i, hi, rfl⟩ := List.mem_map.1 ho
  rw [← P.red hi]
  have HP := Lib.hid P
  have HI := Lib.hid hi
  have HY := Lib.hid hy
  have a1 : ¬ y < 1 := by omega
  have a2 : ¬ (ord i).qt < y := by omega
  have a3 : IntKind.i64.wrap ((ord i).qt - y) = (ord i).qt - y := IntWalk.i64_in _ (by omega)
  have a4 : ((ord i).qt - y == 0) = false := by simp; omega
  have HO := Lib.hid P.of
  have nds := P.nd
  have hsub := P.sub
  simp only [sideD, List.cons_append, List.nil_append, List.nodup_cons, List.mem_cons, not_or] at nds
  obtain ⟨⟨d1, d2, d3, d4, d5, d6, d7, d8, d9⟩, ⟨e2, e3, e4, e5, e6, e7, e8, e9⟩, ⟨f3, f4, f5, f6, f7, f8, f9⟩, ⟨g4, g5, g6, g7, g8, g9⟩, ⟨h5, h6, h7, h8, h9⟩, ⟨i6, i7, i8, i9⟩, ⟨j7, j8, j9⟩, ⟨k8, k9⟩, l9, _⟩ := nds
  have hlt := P.lt
  have HLT := Lib.hid (fun x hx => hlt x (hsub x hx))
  have HW := Lib.hid (fun x hx g (hg : w.heap.size ≤ g) (e : g = x) => by have := HLT.out x hx; omega : ∀ x, x ∈ [b, ba, bi, bs, bm] ++ sideD lp v bq bn be → ∀ g, w.heap.size ≤ g → g ≠ x)
  clear P hi hsd h ho hy hsub hlt
  go_enter Try.func42, Try.ntmps42
  go_wp2_with fail
  refine calls_named (fun W0 hW => ?_)
  have B0 := Blk.box0 hW
  have F0 : Fr [] w W0 := Fr.eqv hW (by with_reducible repeat (first | exact Fr.refl _ _ | assumption | apply Fr.drew | apply Fr.drewN | apply Fr.alloc | (apply Fr.step; assumption; (intro _ h; (first | exact h | (focus (simp_all; done))))) | (apply Fr.setIn; (first | exact List.mem_cons_self | exact List.mem_cons_of_mem _ List.mem_cons_self | exact List.mem_cons_of_mem _ (List.mem_cons_of_mem _ List.mem_cons_self) | exact List.mem_cons_of_mem _ (List.mem_cons_of_mem _ (List.mem_cons_of_mem _ List.mem_cons_self)))) | (apply Fr.setNew; (first | omega | (simp; omega)))))
  clear hW
  refine (bkFind_has (HP.out.fr F0) i HI.out).mono ?_
  rintro e w1 ⟨rfl, F⟩
  have B1 := Blk.via F (by simp) B0
  have F1 := F0.trans F
  have s1 := F1.size
  clear F B0 F0
  go_wp2_with fail
  refine wp_name (fun W2 hW => ?_)
  have B2 : Blk W2 w1.heap.size 43 ({ ord i with qt := (ord i).qt - y } : Ord).a := Blk.box0 hW
  have C2 := Blk.eqv hW (B1.alloc _)
  have F2 : Fr [] w W2 := Fr.eqv hW (F1.alloc _)
  have K2 := Blk.via F2 (by simp) HP.out.blk
  clear hW B1 F1
  refine u_region (S := fun w' => (∀ j, w'.cell? ⟨w1.heap.size, j, none⟩ = (({ ord i with qt := (ord i).qt - y } : Ord).a)[j]?) ∧ w'.cell? ⟨b, so, none⟩ = some (.pointer (some ⟨lp, 0, none⟩))) 10 (by kernel_rfl) (by kernel_rfl) (by kernel_rfl) (by kernel_rfl) (by kernel_rfl) ⟨fun j => B2.drew.cell j, (K2.drew.cell so).trans HP.out.c1⟩ ?_
  (refine u_take 0 (v := ?_) rfl rfl (by kernel_rfl) (by kernel_rfl) (fun _ _ _ h => h) (Or.inl ⟨by rfl, ?_⟩) ?_; rotate_left; (focus (intro wz hSw; (try dsimp only at hSw); go_simp; (try with_reducible rfl))); (try simp only [Act.put, List.getElem_toArray, List.getElem_cons_succ, List.getElem_cons_zero, List.setIfInBounds_toArray, List.set_cons_zero, List.set_cons_succ]))
  (refine u_take 1 (v := ?_) rfl rfl (by kernel_rfl) (by kernel_rfl) (fun _ _ _ h => h) (Or.inl ⟨by rfl, ?_⟩) ?_; rotate_left; (focus (intro wz hSw; (try dsimp only at hSw); go_simp; (try with_reducible rfl))); (try simp only [Act.put, List.getElem_toArray, List.getElem_cons_succ, List.getElem_cons_zero, List.setIfInBounds_toArray, List.set_cons_zero, List.set_cons_succ]))
  (refine u_take 2 (v := ?_) rfl rfl (by kernel_rfl) (by kernel_rfl) (fun _ _ _ h => h) (Or.inl ⟨by rfl, ?_⟩) ?_; rotate_left; (focus (intro wz hSw; (try dsimp only at hSw); go_simp; (try with_reducible rfl))); (try simp only [Act.put, List.getElem_toArray, List.getElem_cons_succ, List.getElem_cons_zero, List.setIfInBounds_toArray, List.set_cons_zero, List.set_cons_succ]))
  (refine u_take 7 (v := ?_) rfl rfl (by kernel_rfl) (by kernel_rfl) (fun _ _ _ h => h) (Or.inl ⟨by rfl, ?_⟩) ?_; rotate_left; (focus (intro wz hSw; (try dsimp only at hSw); go_simp; (try with_reducible rfl))); (try simp only [Act.put, List.getElem_toArray, List.getElem_cons_succ, List.getElem_cons_zero, List.setIfInBounds_toArray, List.set_cons_zero, List.set_cons_succ]))
  (refine u_take 8 (v := ?_) rfl rfl (by kernel_rfl) (by kernel_rfl) (fun _ _ _ h => h) (Or.inl ⟨by rfl, ?_⟩) ?_; rotate_left; (focus (intro wz hSw; (try dsimp only at hSw); go_simp; (try with_reducible rfl))); (try simp only [Act.put, List.getElem_toArray, List.getElem_cons_succ, List.getElem_cons_zero, List.setIfInBounds_toArray, List.set_cons_zero, List.set_cons_succ]))
  (refine u_take 9 (v := ?_) rfl rfl (by kernel_rfl) (by kernel_rfl) (fun _ _ _ h => h) (Or.inl ⟨by rfl, ?_⟩) ?_; rotate_left; (focus (intro wz hSw; (try dsimp only at hSw); go_simp; (try with_reducible rfl))); (try simp only [Act.put, List.getElem_toArray, List.getElem_cons_succ, List.getElem_cons_zero, List.setIfInBounds_toArray, List.set_cons_zero, List.set_cons_succ]))
  refine u_one 3 (by kernel_rfl) rfl rfl (fun Kq hKq => ?_)
  go_simp
  refine (HO.out _).mono ?_
  rintro e w3 ⟨rfl, rfl⟩
  refine hKq _ _ ⟨fun j => B2.drew.cell j, (K2.drew.cell so).trans HP.out.c1⟩ ?_
  clear hKq Kq
  (try simp only [Act.put, List.getElem_toArray, List.getElem_cons_succ, List.getElem_cons_zero, List.setIfInBounds_toArray, List.set_cons_zero, List.set_cons_succ])
  (refine u_take 4 (v := ?_) rfl rfl (by kernel_rfl) (by kernel_rfl) (fun _ _ _ h => h) (Or.inl ⟨by rfl, ?_⟩) ?_; rotate_left; (focus (intro wz hSw; (try dsimp only at hSw); go_simp; (try with_reducible rfl))); (try simp only [Act.put, List.getElem_toArray, List.getElem_cons_succ, List.getElem_cons_zero, List.setIfInBounds_toArray, List.set_cons_zero, List.set_cons_succ]))
  (refine u_take 5 (v := ?_) rfl rfl (by kernel_rfl) (by kernel_rfl) (fun _ _ _ h => h) (Or.inl ⟨by rfl, ?_⟩) ?_; rotate_left; (focus (intro wz hSw; (try dsimp only at hSw); go_simp; (try with_reducible rfl))); (try simp only [Act.put, List.getElem_toArray, List.getElem_cons_succ, List.getElem_cons_zero, List.setIfInBounds_toArray, List.set_cons_zero, List.set_cons_succ]))
  (refine u_take 6 (v := ?_) rfl rfl (by kernel_rfl) (by kernel_rfl) (fun _ _ _ h => h) (Or.inl ⟨by rfl, ?_⟩) ?_; rotate_left; (focus (intro wz hSw; (try dsimp only at hSw); go_simp; (try with_reducible rfl))); (try simp only [Act.put, List.getElem_toArray, List.getElem_cons_succ, List.getElem_cons_zero, List.setIfInBounds_toArray, List.set_cons_zero, List.set_cons_succ]))
  refine u_last (by kernel_rfl) rfl (by kernel_rfl) ?_
  go_wp2_with fail
  refine (side_less W2.drew (ord i).sd lp v bq bn be N K T ord (HP.out.sd.fr (S := []) F2.drew (by simp) (by simp) (by simp) (by simp) (by simp)) HP.out.t i HI.out rfl y HY.out).mono ?_
  rintro e w4 ⟨k, rfl, F4, S4⟩
  have F24 : Fr v.ownBlock.toList W2 w4 := (Fr.drew (Fr.refl _ _)).trans F4
  have nO : ∀ g, w.heap.size ≤ g → g ∉ v.ownBlock.toList := fun g hg hm => HW.out g (by simp only [sideD, List.mem_append, List.mem_cons]; exact .inr (.inr (.inr (.inr (.inr hm))))) g hg rfl
  have B4 := Blk.via F24 (nO _ s1) B2
  have C4 := Blk.via F24 (nO _ (Nat.le_refl _)) C2
  have K4 := Blk.via F24 d9 K2
  have A4 := HP.out.a.fr ((F2.mono (by simp)).trans F24) e9
  have HS4 := Lib.hid S4
  have F04 : Fr v.ownBlock.toList w w4 := (F2.mono (by simp)).trans F24
  clear B2 C2 K2 F4 S4
  go_wp2_with fail
  refine u_region (S := fun w' => (∀ j, w'.cell? ⟨w1.heap.size, j, none⟩ = (({ ord i with qt := (ord i).qt - y } : Ord).a)[j]?) ∧ w'.cell? ⟨b, 0, none⟩ = some (.pointer (some ⟨ba, 0, none⟩))) 6 (by kernel_rfl) (by kernel_rfl) (by kernel_rfl) (by kernel_rfl) (by kernel_rfl) ⟨fun j => B4.drew.cell j, (K4.drew.cell 0).trans HP.out.c0⟩ ?_
  (refine u_take 0 (v := ?_) rfl rfl (by kernel_rfl) (by kernel_rfl) (fun _ _ _ h => h) (Or.inl ⟨by rfl, ?_⟩) ?_; rotate_left; (focus (intro wz hSw; (try dsimp only at hSw); go_simp; (try with_reducible rfl))); (try simp only [Act.put, List.getElem_toArray, List.getElem_cons_succ, List.getElem_cons_zero, List.setIfInBounds_toArray, List.set_cons_zero, List.set_cons_succ]))
  (refine u_take 1 (v := ?_) rfl rfl (by kernel_rfl) (by kernel_rfl) (fun _ _ _ h => h) (Or.inl ⟨by rfl, ?_⟩) ?_; rotate_left; (focus (intro wz hSw; (try dsimp only at hSw); go_simp; (try with_reducible rfl))); (try simp only [Act.put, List.getElem_toArray, List.getElem_cons_succ, List.getElem_cons_zero, List.setIfInBounds_toArray, List.set_cons_zero, List.set_cons_succ]))
  (refine u_take 2 (v := ?_) rfl rfl (by kernel_rfl) (by kernel_rfl) (fun _ _ _ h => h) (Or.inl ⟨by rfl, ?_⟩) ?_; rotate_left; (focus (intro wz hSw; (try dsimp only at hSw); go_simp; (try with_reducible rfl))); (try simp only [Act.put, List.getElem_toArray, List.getElem_cons_succ, List.getElem_cons_zero, List.setIfInBounds_toArray, List.set_cons_zero, List.set_cons_succ]))
  (refine u_take 3 (v := ?_) rfl rfl (by kernel_rfl) (by kernel_rfl) (fun _ _ _ h => h) (Or.inl ⟨by rfl, ?_⟩) ?_; rotate_left; (focus (intro wz hSw; (try dsimp only at hSw); go_simp; (try with_reducible rfl))); (try simp only [Act.put, List.getElem_toArray, List.getElem_cons_succ, List.getElem_cons_zero, List.setIfInBounds_toArray, List.set_cons_zero, List.set_cons_succ]))
  (refine u_take 4 (v := ?_) rfl rfl (by kernel_rfl) (by kernel_rfl) (fun _ _ _ h => h) (Or.inl ⟨by rfl, ?_⟩) ?_; rotate_left; (focus (intro wz hSw; (try dsimp only at hSw); go_simp; (try with_reducible rfl))); (try simp only [Act.put, List.getElem_toArray, List.getElem_cons_succ, List.getElem_cons_zero, List.setIfInBounds_toArray, List.set_cons_zero, List.set_cons_succ]))
  (refine u_take 5 (v := ?_) rfl rfl (by kernel_rfl) (by kernel_rfl) (fun _ _ _ h => h) (Or.inl ⟨by rfl, ?_⟩) ?_; rotate_left; (focus (intro wz hSw; (try dsimp only at hSw); go_simp; (try with_reducible rfl))); (try simp only [Act.put, List.getElem_toArray, List.getElem_cons_succ, List.getElem_cons_zero, List.setIfInBounds_toArray, List.set_cons_zero, List.set_cons_succ]))
  refine u_last (by kernel_rfl) rfl (by kernel_rfl) ?_
  go_wp2_with fail
  refine (arSet_has w4.drew ba N i fl m (A4.fr (S := []) (Fr.drew (Fr.refl _ _)) (by simp)) ({ ord i with qt := (ord i).qt - y } : Ord) (ord i) (HP.out.mt i HI.out)).mono ?_
  rintro e w5 ⟨rfl, F5, A5⟩
  have F45 : Fr [ba] w4 w5 := (Fr.drew (Fr.refl _ _)).trans F5
  have B5 := Blk.via F45 (by simp only [List.mem_cons, List.not_mem_nil, or_false]; exact HW.out ba (by simp) _ s1) B4
  have C5 := Blk.via F45 (by simp only [List.mem_cons, List.not_mem_nil, or_false]; exact HW.out ba (by simp) _ (Nat.le_refl _)) C4
  have HA5 := Lib.hid A5
  clear B4 C4 K4 A4 F5 A5
  go_wp2_with (first
    | (refine wpList_loadO rfl (.tmp 8) rfl w1.heap.size ({ ord i with qt := (ord i).qt - y } : Ord) rfl B5 ?_)
    | (refine wpList_storeO rfl (.tmp 6) (.tmp 67) rfl w.heap.size _ ({ ord i with qt := (ord i).qt - y } : Ord) rfl rfl C5 rfl ?_
       intro w6 B6 F6))
  have c6 := B6.cell
  have F05 : Fr (ba :: bs :: bm :: sideD lp v bq bn be) w w5 := by
    refine (F04.mono fun x hx => ?_).trans (F45.mono fun x hx => ?_)
    · simp only [List.mem_cons, sideD]; simp [hx]
    · simp only [List.mem_cons, List.not_mem_nil, or_false] at hx
      simp [hx]
  have S5 := HS4.out.fr F45 (by simp only [List.mem_cons, List.not_mem_nil, or_false]; exact Ne.symm e5) (fun g hg hm => by
    obtain rfl : g = ba := by simpa using hm
    exact e9 (by simp [hg])) (by simp only [List.mem_cons, List.not_mem_nil, or_false]; exact Ne.symm e6) (by simp only [List.mem_cons, List.not_mem_nil, or_false]; exact Ne.symm e7) (by simp only [List.mem_cons, List.not_mem_nil, or_false]; exact Ne.symm e8)
  have X5 := HP.out.x.fr ((F04.mono (S' := ba :: v.ownBlock.toList) (fun x hx => List.mem_cons_of_mem _ hx)).trans (F45.mono (by simp))) (by simp only [List.mem_cons, not_or]; exact ⟨Ne.symm e2, f9⟩) (by simp only [List.mem_cons, not_or]; exact ⟨Ne.symm e3, g9⟩) (by simp only [List.mem_cons, not_or]; exact ⟨Ne.symm e4, h9⟩)
  have P := HP.out
  have hi := HI.out
  have hgood := P.t.good i hi
  have hdl : ∀ x ∈ D, x < w.heap.size := P.lt
  have hbk := P.back w5 _ v fl _ ix T (updO ord i { ord i with qt := (ord i).qt - y }) F05 (fun _ h => h) rfl HA5.out X5 S5 (fun w lp v bq bn be h => h.skipUpd (by rcases hgood.sd with e | e <;> rw [e] <;> decide) rfl rfl)
    ⟨P.t.nd, P.t.lt, fun j hj => by
      by_cases c : j = i
      · subst c; rw [updO_same]; exact ⟨hgood.sd, hgood.pr, by have := HY.out; have := hgood.qt; simp only; omega⟩
      · rw [updO_ne c]; exact P.t.good j hj, P.t.N2⟩
    (fun j hj => by
      by_cases c : j = i
      · subst c; rw [updO_same, updO_same]
      · rw [updO_ne c, updO_ne c]; exact P.mt j hj)
    (fun j hj => by
      rw [updO_ne (show j ≠ i from fun e => hj (e ▸ hi))]; exact P.mn j hj)
    (fun id s => by
      rw [P.ids id s]
      by_cases c : s = i
      · subst c; rw [updO_same]
      · rw [updO_ne c]) P.len
  exact bodyPost_ret (v := .tuple #[.agg ({ ord i with qt := (ord i).qt - y } : Ord).a, .int .i64 0]) (by simp [results, Try.results42, go_sem, c6]) rfl ⟨rfl, fr_own (Nat.le_refl _) (P.frD F05 (fun _ h => h)) F6, hbk.fr F6 (fun x hx hm => by have := hdl x hx; rw [List.mem_singleton.1 hm] at this; omega)⟩
end Go.Proofs.Ytkimldeagndgjaa

/- A book: Len, Best, Crossed, walked. -/
namespace Go.Proofs.Ytkimldeagndgjaa
set_option linter.unusedVariables false
set_option linter.unusedSimpArgs false
open Go.RowKit

theorem bookLen (w : World) (b : Nat) (D : List Nat) (N K : Nat) (L : List Ord) (h : BookI w b D N K L) :
    Calls Try.prog 29 #[.pointer (some ⟨b, 0, none⟩)] w fun e w' => e = .returned (.int .i64 L.length) ∧ Fr [] w w' := by
  obtain ⟨ba, bi, bs, bm, so, lp, bq, bn, be, v, bc, fl, m, ix, T, ord, P, rfl⟩ := h.pick 0 (.inl rfl)
  have hl := P.len
  have HA := Lib.hid (arUsed_any w ba N fl m P.a)
  have q0 := (P.blk.cell 0).trans P.c0
  have e1 : ((N : Int) - fl.length) = ((T.map ord).length : Nat) := by simp; omega
  have HE := Lib.hid e1
  clear P h hl e1
  go_enter Try.func29, Try.ntmps29
  go_wp2_with fail
  refine HA.out.mono ?_
  rintro e w1 ⟨rfl, F⟩
  go_wp2_with fail
  go_ret
  exact ⟨by rw [HE.out]; rfl, F⟩

set_option maxHeartbeats 1000000 in
theorem bookBest_no (w : World) (b : Nat) (D : List Nat) (N K : Nat) (L : List Ord) (h : BookI w b D N K L) (s : Int) (hs : s = 0 ∨ s = 1) (hY : OfL s L []) :
    Calls Try.prog 43 #[.pointer (some ⟨b, 0, none⟩), .int .i64 s] w fun e w' => e = .returned (.tuple #[.int .i64 0, .bool false]) ∧ Fr [] w w' := by
  obtain ⟨ba, bi, bs, bm, so, lp, bq, bn, be, v, bc, fl, m, ix, T, ord, P, rfl⟩ := h.pick s hs
  obtain ⟨X, hX⟩ := P.sd.slots
  have hn : X = [] := List.map_eq_nil_iff.1 (hX.ofL.unique hY)
  subst hn
  have HB := Lib.hid (side_best_no w s lp v bq bn be N K T ord P.sd hX)
  have HO := Lib.hid P.of
  have q1 := (P.blk.cell so).trans P.c1
  clear P hX hY hs h
  go_enter Try.func43, Try.ntmps43
  go_wp2_with fail
  refine (HO.out w).mono ?_
  rintro e w1 ⟨rfl, rfl⟩
  go_wp2_with fail
  refine HB.out.mono ?_
  rintro e w2 ⟨rfl, F2⟩
  unfold lvV
  clear q1
  go_wp2_with fail
  go_ret2
  exact ⟨rfl, by with_reducible repeat (first | exact Fr.refl _ _ | assumption | apply Fr.drew | apply Fr.drewN | apply Fr.alloc | (apply Fr.step; assumption; (intro _ h; (first | exact h | (focus (simp_all; done))))) | (apply Fr.setIn; (first | exact List.mem_cons_self | exact List.mem_cons_of_mem _ List.mem_cons_self | exact List.mem_cons_of_mem _ (List.mem_cons_of_mem _ List.mem_cons_self) | exact List.mem_cons_of_mem _ (List.mem_cons_of_mem _ (List.mem_cons_of_mem _ List.mem_cons_self)))) | (apply Fr.setNew; (first | omega | (simp; omega))))⟩
set_option maxHeartbeats 1000000 in
theorem bookBest (w : World) (b : Nat) (D : List Nat) (N K : Nat) (L : List Ord) (h : BookI w b D N K L) (s : Int) (hs : s = 0 ∨ s = 1) (o : Ord) (Y : List Ord) (hY : OfL s L (o :: Y)) :
    Calls Try.prog 43 #[.pointer (some ⟨b, 0, none⟩), .int .i64 s] w fun e w' => e = .returned (.tuple #[.int .i64 o.pr, .bool true]) ∧ Fr [] w w' := by
  obtain ⟨ba, bi, bs, bm, so, lp, bq, bn, be, v, bc, fl, m, ix, T, ord, P, rfl⟩ := h.pick s hs
  obtain ⟨X, hX⟩ := P.sd.slots
  obtain ⟨i, r, rfl, rfl, _⟩ := List.map_eq_cons_iff.1 (hX.ofL.unique hY)
  have HB := Lib.hid (side_best w s lp v bq bn be N K T ord P.sd i r hX)
  have HO := Lib.hid P.of
  have q1 := (P.blk.cell so).trans P.c1
  clear P hX hY hs h
  go_enter Try.func43, Try.ntmps43
  go_wp2_with fail
  refine (HO.out w).mono ?_
  rintro e w1 ⟨rfl, rfl⟩
  go_wp2_with fail
  refine HB.out.mono ?_
  rintro e w2 ⟨x, k, rfl, F2, hxp, _⟩
  unfold lvV
  clear q1
  go_wp2_with fail
  go_ret2
  exact ⟨rfl, by with_reducible repeat (first | exact Fr.refl _ _ | assumption | apply Fr.drew | apply Fr.drewN | apply Fr.alloc | (apply Fr.step; assumption; (intro _ h; (first | exact h | (focus (simp_all; done))))) | (apply Fr.setIn; (first | exact List.mem_cons_self | exact List.mem_cons_of_mem _ List.mem_cons_self | exact List.mem_cons_of_mem _ (List.mem_cons_of_mem _ List.mem_cons_self) | exact List.mem_cons_of_mem _ (List.mem_cons_of_mem _ (List.mem_cons_of_mem _ List.mem_cons_self)))) | (apply Fr.setNew; (first | omega | (simp; omega))))⟩
theorem bookBest_side (w : World) (b : Nat) (s : Int) (h0 : s ≠ 0) (h1 : s ≠ 1) :
    Calls Try.prog 43 #[.pointer (some ⟨b, 0, none⟩), .int .i64 s] w fun e w' => e = .returned (.tuple #[.int .i64 0, .bool false]) ∧ Fr [] w w' := by
  have HO := Lib.hid (fun W => of_side_no W b s h0 h1)
  clear h0 h1
  go_enter Try.func43, Try.ntmps43
  go_wp2_with fail
  refine (HO.out _).mono ?_
  rintro e w1 ⟨rfl, rfl⟩
  go_wp2_with fail
  go_ret2
  exact ⟨rfl, by with_reducible repeat (first | exact Fr.refl _ _ | assumption | apply Fr.drew | apply Fr.drewN | apply Fr.alloc | (apply Fr.step; assumption; (intro _ h; (first | exact h | (focus (simp_all; done))))) | (apply Fr.setIn; (first | exact List.mem_cons_self | exact List.mem_cons_of_mem _ List.mem_cons_self | exact List.mem_cons_of_mem _ (List.mem_cons_of_mem _ List.mem_cons_self) | exact List.mem_cons_of_mem _ (List.mem_cons_of_mem _ (List.mem_cons_of_mem _ List.mem_cons_self)))) | (apply Fr.setNew; (first | omega | (simp; omega))))⟩

/-- The best price of a side's orders in its order. -/
def bestP : List Ord → Int
  | [] => 0
  | o :: _ => o.pr
theorem bookBest_any (w : World) (b : Nat) (D : List Nat) (N K : Nat) (L : List Ord) (h : BookI w b D N K L) (s : Int) (hs : s = 0 ∨ s = 1) (Y : List Ord) (hY : OfL s L Y) :
    Calls Try.prog 43 #[.pointer (some ⟨b, 0, none⟩), .int .i64 s] w fun e w' => e = .returned (.tuple #[.int .i64 (bestP Y), .bool (!Y.isEmpty)]) ∧ Fr [] w w' := by
  cases Y with
  | nil => exact bookBest_no w b D N K L h s hs hY
  | cons o Y => exact bookBest w b D N K L h s hs o Y hY
set_option maxHeartbeats 1000000 in
theorem bookCrossed (w : World) (b : Nat) (D : List Nat) (N K : Nat) (L : List Ord) (h : BookI w b D N K L) (Y0 Y1 : List Ord) (h0 : OfL 0 L Y0) (h1 : OfL 1 L Y1) :
    Calls Try.prog 48 #[.pointer (some ⟨b, 0, none⟩)] w fun e w' => e = .returned (.bool (!Y0.isEmpty && !Y1.isEmpty && decide (bestP Y1 ≤ bestP Y0))) ∧ Fr [] w w' := by
  have H0 := Lib.hid (fun W (hf : Fr [] w W) => bookBest_any W b D N K L (h.fr hf (by simp)) 0 (.inl rfl) Y0 h0)
  have H1 := Lib.hid (fun W (hf : Fr [] w W) => bookBest_any W b D N K L (h.fr hf (by simp)) 1 (.inr rfl) Y1 h1)
  clear h h0 h1
  cases Y0 with
  | nil =>
    simp only [List.isEmpty_nil, Bool.not_true, Bool.false_and] at H0 ⊢
    generalize bestP [] = z at H0
    go_enter Try.func48, Try.ntmps48
    go_wp2_with fail
    refine (H0.out _ (Fr.refl _ _)).mono ?_
    rintro e w1 ⟨rfl, F1⟩
    go_wp2_with fail
    refine (H1.out _ F1).mono ?_
    rintro e w2 ⟨rfl, F2⟩
    go_wp2_with fail
    go_ret
    exact ⟨rfl, F1.trans F2⟩
  | cons o r =>
    cases Y1 with
    | nil =>
      simp only [List.isEmpty_nil, List.isEmpty_cons, Bool.not_true, Bool.not_false, Bool.and_false, Bool.false_and] at H0 H1 ⊢
      generalize bestP [] = z at H1
      go_enter Try.func48, Try.ntmps48
      go_wp2_with fail
      refine (H0.out _ (Fr.refl _ _)).mono ?_
      rintro e w1 ⟨rfl, F1⟩
      go_wp2_with fail
      refine (H1.out _ F1).mono ?_
      rintro e w2 ⟨rfl, F2⟩
      go_wp2_with fail
      go_ret
      exact ⟨rfl, F1.trans F2⟩
    | cons p q =>
      simp only [List.isEmpty_cons, Bool.not_false, Bool.true_and] at H0 H1 ⊢
      go_enter Try.func48, Try.ntmps48
      go_wp2_with fail
      refine (H0.out _ (Fr.refl _ _)).mono ?_
      rintro e w1 ⟨rfl, F1⟩
      go_wp2_with fail
      refine (H1.out _ F1).mono ?_
      rintro e w2 ⟨rfl, F2⟩
      go_wp2_with fail
      go_ret
      exact ⟨rfl, F1.trans F2⟩
end Go.Proofs.Ytkimldeagndgjaa

/- A book: whatever is added; its list of orders in plain words. -/
namespace Go.Proofs.Ytkimldeagndgjaa
set_option linter.unusedVariables false
set_option linter.unusedSimpArgs false
open Go.RowKit

/-- The prices of a side, each once. -/
def prsL (s : Int) : List Ord → List Int → List Int
  | [], acc => acc
  | x :: r, acc => prsL s r (if x.sd = s ∧ x.pr ∉ acc then acc ++ [x.pr] else acc)
theorem prsL_spec {s : Int} : ∀ {L : List Ord} {acc : List Int}, acc.Nodup → (prsL s L acc).Nodup ∧ ∀ q, q ∈ prsL s L acc ↔ q ∈ acc ∨ ∃ x ∈ L, x.sd = s ∧ x.pr = q
  | [], acc, h => ⟨h, fun q => by simp [prsL]⟩
  | x :: r, acc, h => by
    unfold prsL
    by_cases c : x.sd = s ∧ x.pr ∉ acc
    · rw [if_pos c]
      have hn : (acc ++ [x.pr]).Nodup := by
        rw [List.nodup_append]
        exact ⟨h, by simp, fun a ha b hb => by rw [List.mem_singleton.1 hb]; exact fun e => c.2 (e ▸ ha)⟩
      obtain ⟨h1, h2⟩ := prsL_spec (s := s) (L := r) hn
      refine ⟨h1, fun q => ?_⟩
      rw [h2 q]
      simp only [List.mem_append, List.mem_cons, List.not_mem_nil, or_false]
      constructor
      · rintro ((h3 | rfl) | ⟨y, hy, h3⟩)
        · exact .inl h3
        · exact .inr ⟨x, .inl rfl, c.1, rfl⟩
        · exact .inr ⟨y, .inr hy, h3⟩
      · rintro (h3 | ⟨y, (rfl | hy), h3⟩)
        · exact .inl (.inl h3)
        · exact .inl (.inr h3.2.symm)
        · exact .inr ⟨y, hy, h3⟩
    · rw [if_neg c]
      obtain ⟨h1, h2⟩ := prsL_spec (s := s) (L := r) h
      refine ⟨h1, fun q => ?_⟩
      rw [h2 q]
      constructor
      · rintro (h3 | ⟨y, hy, h3⟩)
        · exact .inl h3
        · exact .inr ⟨y, by simp [hy], h3⟩
      · rintro (h3 | ⟨y, hy, h3⟩)
        · exact .inl h3
        · rcases List.mem_cons.1 hy with rfl | hy
          · left
            rcases Classical.em (y.pr ∈ acc) with h4 | h4
            · rw [← h3.2]; exact h4
            · exact absurd ⟨h3.1, h4⟩ c
          · exact .inr ⟨y, hy, h3⟩
theorem prsL_len {s : Int} : ∀ {L : List Ord} {acc : List Int}, (prsL s L acc).length ≤ acc.length + L.length
  | [], acc => by simp [prsL]
  | x :: r, acc => by
    unfold prsL
    have := prsL_len (s := s) (L := r) (acc := if x.sd = s ∧ x.pr ∉ acc then acc ++ [x.pr] else acc)
    have h2 : (if x.sd = s ∧ x.pr ∉ acc then acc ++ [x.pr] else acc).length ≤ acc.length + 1 := by split <;> simp
    simp only [List.length_cons]; omega
def fitsB (s p : Int) (L : List Ord) (K : Nat) : Bool := L.any (fun x => decide (x.sd = s ∧ x.pr = p)) || decide ((prsL s L []).length < K)
theorem fitsB_iff {s p : Int} {L : List Ord} {K : Nat} : fitsB s p L K = true ↔ FitsL s p L K := by
  obtain ⟨h1, h2⟩ := prsL_spec (s := s) (L := L) (acc := []) (by simp)
  unfold fitsB FitsL
  rw [Bool.or_eq_true, List.any_eq_true, decide_eq_true_iff]
  constructor
  · rintro (⟨x, hx, h3⟩ | h3)
    · exact .inl ⟨x, hx, of_decide_eq_true h3⟩
    · exact .inr ⟨_, h1, fun q => by rw [h2 q]; simp, h3⟩
  · rintro (⟨x, hx, h3⟩ | ⟨P, p1, p2, p3⟩)
    · exact .inl ⟨x, hx, decide_eq_true h3⟩
    · right
      have hp : (prsL s L []).Perm P := (List.perm_ext_iff_of_nodup h1 p1).2 fun q => by rw [h2 q, p2 q]; simp
      rw [hp.length_eq]; exact p3

instance (o : Ord) : Decidable (Good o) := decidable_of_iff ((o.sd = 0 ∨ o.sd = 1) ∧ (1 ≤ o.pr ∧ o.pr ≤ 1099511627776) ∧ (1 ≤ o.qt ∧ o.qt ≤ 4294967296)) ⟨fun h => ⟨h.1, h.2.1, h.2.2⟩, fun h => ⟨h.sd, h.pr, h.qt⟩⟩
/-- What Add answers, and what it leaves. -/
def addF (N K : Nat) (L : List Ord) (o : Ord) : Int :=
  if ¬ (o.sd = 0 ∨ o.sd = 1) then 1 else if ¬ Good o then 9 else if L.any (fun x => decide (x.id = o.id)) then 6 else if fitsB o.sd o.pr L K && decide (L.length < N) then 0 else 7
def addL (N K : Nat) (L : List Ord) (o : Ord) : List Ord := if addF N K L o = 0 then L ++ [o] else L

theorem Makes.same {w : World} {b N K : Nat} {D : List Nat} {L : List Ord} {w' : World} (h : BookI w b D N K L) (hf : Fr [] w w') : Makes w b D N K L w' := ⟨hf.mono (by simp), D, h.fr hf (by simp), fun _ h => .inl h⟩
theorem bookAdd_any (w : World) (b : Nat) (D : List Nat) (N K : Nat) (L : List Ord) (h : BookI w b D N K L) (o : Ord) :
    Calls Try.prog 23 #[.pointer (some ⟨b, 0, none⟩), .agg o.a] w fun e w' => e = .returned (.int .i64 (addF N K L o)) ∧ Makes w b D N K (addL N K L o) w' := by
  unfold addL addF
  by_cases c1 : o.sd = 0 ∨ o.sd = 1
  · rw [if_neg (fun h => h c1)]
    by_cases c2 : Good o
    · rw [if_neg (fun h => h c2)]
      by_cases c3 : L.any (fun x => decide (x.id = o.id)) = true
      · rw [if_pos c3, if_neg (by decide)]
        obtain ⟨x, hx, h3⟩ := List.any_eq_true.1 c3
        exact (bookAdd_twice w b D N K L h o c2 ⟨x, hx, of_decide_eq_true h3⟩).mono fun e w' ⟨h1, h2⟩ => ⟨h1, Makes.same h h2⟩
      · rw [if_neg c3]
        have hid : ∀ x ∈ L, x.id ≠ o.id := fun x hx e => c3 (List.any_eq_true.2 ⟨x, hx, decide_eq_true e⟩)
        by_cases c4 : (fitsB o.sd o.pr L K && decide (L.length < N)) = true
        · rw [if_pos c4, if_pos rfl]
          rw [Bool.and_eq_true, decide_eq_true_iff, fitsB_iff] at c4
          exact bookAdd_ok w b D N K L h o c2 hid c4.1 c4.2
        · rw [if_neg c4, if_neg (by decide)]
          rw [Bool.and_eq_true, decide_eq_true_iff, fitsB_iff] at c4
          exact (bookAdd_full w b D N K L h o c2 hid c4).mono fun e w' ⟨h1, h2⟩ => ⟨h1, Makes.same h h2⟩
    · rw [if_pos c2, if_neg (by decide)]
      refine (bookAdd_range w b o c1 (fun hr => c2 ⟨c1, hr.1, hr.2⟩)).mono fun e w' ⟨h1, h2⟩ => ⟨h1, Makes.same h h2⟩
  · rw [if_pos c1, if_neg (by decide)]
    exact (bookAdd_side w b o (fun e => c1 (.inl e)) (fun e => c1 (.inr e))).mono fun e w' ⟨h1, h2⟩ => ⟨h1, Makes.same h h2⟩
theorem newBook_makes {w0 w w' : World} {b N K : Nat} {L' : List Ord} {D : List Nat} (F : Fr [] w0 w) (hD : ∀ x ∈ D, w0.heap.size ≤ x) (h : Makes w b D N K L' w') : NewBook w0 w' b N K L' := by
  obtain ⟨F', D', hB', hD'⟩ := h
  have s := F.size
  exact ⟨fr_newD hD F F', D', hB', fun x hx => by rcases hD' x hx with h | h; exact hD x h; omega⟩
theorem newBook_addAny {w0 w : World} {b N K : Nat} {L : List Ord} (h : NewBook w0 w b N K L) (o : Ord) :
    Calls Try.prog 23 #[.pointer (some ⟨b, 0, none⟩), .agg o.a] w fun e w' => e = .returned (.int .i64 (addF N K L o)) ∧ NewBook w0 w' b N K (addL N K L o) := by
  obtain ⟨F, D, hB, hD⟩ := h
  exact (bookAdd_any w b D N K L hB o).mono fun e w' ⟨h1, h2⟩ => ⟨h1, newBook_makes F hD h2⟩

/-- What a book's list of orders is like. -/
structure GoodL (N : Nat) (L : List Ord) : Prop where
  good : ∀ x ∈ L, Good x
  nd : (L.map (·.id)).Nodup
  len : L.length ≤ N
  N2 : N ≤ 500
theorem BookI.goodL {w : World} {b N K : Nat} {D : List Nat} {L : List Ord} (h : BookI w b D N K L) : GoodL N L := by
  obtain ⟨ba, bi, bs, bm, so, lp, bq, bn, be, v, bc, fl, m, ix, T, ord, P, rfl⟩ := h.pick 0 (.inl rfl)
  refine ⟨fun x hx => ?_, ?_, by have := P.len; simp; omega, P.t.N2⟩
  · obtain ⟨i, hi, rfl⟩ := List.mem_map.1 hx
    exact P.t.good i hi
  · rw [List.map_map, List.nodup_iff_pairwise_ne, List.pairwise_map]
    refine List.Pairwise.imp_of_mem ?_ P.t.nd
    intro a c ha hc hne h
    exact hne ((P.idne ha hc).1 h)
theorem GoodL.eq_of_id {N : Nat} {L : List Ord} (h : GoodL N L) {x y : Ord} (hx : x ∈ L) (hy : y ∈ L) (e : x.id = y.id) : x = y := by
  have := h.nd
  rw [List.nodup_iff_pairwise_ne, List.pairwise_map] at this
  rcases Classical.em (x = y) with h1 | h1
  · exact h1
  · exfalso
    obtain ⟨A, B, rfl⟩ := List.append_of_mem hx
    rcases List.mem_append.1 hy with h2 | h2
    · exact (List.pairwise_append.1 this).2.2 y h2 x (by simp) e.symm
    · rcases List.mem_cons.1 h2 with h3 | h3
      · exact h1 h3.symm
      · exact (List.pairwise_cons.1 (List.pairwise_append.1 this).2.1).1 y h3 e
theorem rmv_of {s id : Int} {L Y : List Ord} (h : OfL s L Y) : OfL s (rmv id L) (rmv id Y) := by
  refine ⟨h.1.filter _, fun p => ?_⟩
  unfold rmv
  rw [List.filter_filter, List.filter_filter]
  have h1 : ∀ (Z : List Ord) (q : Ord → Bool), Z.filter (fun a => q a && decide (a.id ≠ id)) = (Z.filter q).filter (fun a => decide (a.id ≠ id)) := by
    intro Z q
    rw [List.filter_filter]
    exact List.filter_congr fun a _ => Bool.and_comm _ _
  rw [h1, h1, h.2 p]
theorem OfL.mem {s : Int} {L Y : List Ord} (h : OfL s L Y) {x : Ord} : x ∈ Y ↔ x ∈ L ∧ x.sd = s := by
  have h1 := h.2 x.pr
  constructor
  · intro hx
    have h2 : x ∈ Y.filter (fun a => decide (a.pr = x.pr)) := List.mem_filter.2 ⟨hx, by simp⟩
    rw [h1] at h2
    obtain ⟨h3, h4⟩ := List.mem_filter.1 h2
    exact ⟨h3, (of_decide_eq_true h4).1⟩
  · rintro ⟨h2, h3⟩
    have h4 : x ∈ L.filter (fun a => decide (a.sd = s ∧ a.pr = x.pr)) := List.mem_filter.2 ⟨h2, by simp [h3]⟩
    rw [← h1] at h4
    exact (List.mem_filter.1 h4).1
theorem BookI.of {w : World} {b N K : Nat} {D : List Nat} {L : List Ord} (h : BookI w b D N K L) (s : Int) (hs : s = 0 ∨ s = 1) : ∃ Y, OfL s L Y := by
  obtain ⟨ba, bi, bs, bm, so, lp, bq, bn, be, v, bc, fl, m, ix, T, ord, P, rfl⟩ := h.pick s hs
  obtain ⟨X, hX⟩ := P.sd.slots
  exact ⟨_, hX.ofL⟩
end Go.Proofs.Ytkimldeagndgjaa
