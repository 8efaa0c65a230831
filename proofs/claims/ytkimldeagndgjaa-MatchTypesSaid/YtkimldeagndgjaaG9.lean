/- Words and contracts: AppS OfL SweepA SweepB SweepC. -/
import Derived.Outline
import Derived.Test.YtkimldeagndgjaaG0
import Derived.Test.YtkimldeagndgjaaG2
import Derived.Test.YtkimldeagndgjaaG3
import Derived.Test.YtkimldeagndgjaaG5
import Derived.Test.YtkimldeagndgjaaG6
import Derived.Test.YtkimldeagndgjaaG7
import Derived.Test.YtkimldeagndgjaaG8
/- Rows of structs that a call owns, element by element, and append onto them. No program stands in this text. -/
namespace Go.Proofs.Ytkimldeagndgjaa
set_option linter.unusedVariables false
set_option linter.unusedSimpArgs false
open Go.RowKit

/-- How elements lie in cells. -/
structure Enc {α : Type} (P : Program) (enc : α → List Value) (sz : Nat) (t e : TypeId) : Prop where
  len : ∀ x, (enc x).length = sz
  one : ∀ x, ∀ u ∈ enc x, u.oneCell' = true
  pos : 0 < sz
  und : P.underlying t = some (.slice e)
  inf : ∃ i z, P.info? e = some i ∧ i.zero = some z ∧ i.size = sz ∧ z.cells.size = sz ∧ i.bytes ≤ 1000000

theorem Src.ownS {w : World} {base n c sz : Nat} {e : TypeId} {A : Option Addr} {xs : List Value} (h : w.ownsRow base e sz (.slice A n c) n xs) : Src w A xs := fun hn => by
  rcases h.2 with ⟨_, rfl⟩ | ⟨g, cap, cur, hv, _, hg, hnc, _, hsz, ht⟩
  · exact absurd (List.eq_nil_of_length_eq_zero (by simpa using h.1)) hn
  · injection hv with hA _ _
    refine ⟨g, 0, hA, ?_, fun j u hu => ?_⟩
    · rcases Nat.lt_or_ge g w.heap.size with hl | hl
      · exact hl
      · rw [Array.getElem?_eq_none hl] at hg; cases hg
    · rw [Nat.zero_add, cell_of_row w g j cur e (0, 0) hg]
      rw [← ht] at hu
      have hj := (List.getElem?_eq_some_iff.1 hu).1
      rw [List.length_take] at hj
      rw [List.getElem?_take_of_lt (by omega)] at hu
      simpa using hu

section
variable {α : Type} {enc : α → List Value} {sz : Nat}
theorem flat_len (h : ∀ x, (enc x).length = sz) : ∀ l : List α, (l.flatMap enc).length = l.length * sz
  | [] => by simp
  | a :: r => by rw [List.flatMap_cons, List.length_append, h, flat_len h r, List.length_cons, Nat.succ_mul]; omega
theorem flat_get (h : ∀ x, (enc x).length = sz) : ∀ {l : List α} {i j : Nat} {x : α}, l[i]? = some x → j < sz → (l.flatMap enc)[i * sz + j]? = (enc x)[j]?
  | [], _, _, _, hx, _ => by simp at hx
  | a :: r, 0, j, x, hx, hj => by
    simp at hx; subst hx
    rw [List.flatMap_cons, Nat.zero_mul, Nat.zero_add, List.getElem?_append_left (by rw [h]; exact hj)]
  | a :: r, i + 1, j, x, hx, hj => by
    have ih := flat_get h (l := r) (i := i) (j := j) (x := x) (by simpa using hx) hj
    rw [List.flatMap_cons, List.getElem?_append_right (by rw [h, Nat.succ_mul]; omega), h, ← ih]
    congr 1
    rw [Nat.succ_mul]; omega
theorem flat_take (h : ∀ x, (enc x).length = sz) : ∀ (l : List α) (k : Nat), (l.flatMap enc).take (k * sz) = (l.take k).flatMap enc
  | [], k => by simp
  | a :: r, 0 => by simp
  | a :: r, k + 1 => by
    rw [List.flatMap_cons, List.take_succ_cons, List.flatMap_cons, ← flat_take h r k, List.take_append, h, List.take_of_length_le (by rw [h, Nat.succ_mul]; omega)]
    congr 2
    rw [Nat.succ_mul]; omega
theorem flat_drop (h : ∀ x, (enc x).length = sz) : ∀ (l : List α) (k : Nat), (l.flatMap enc).drop (k * sz) = (l.drop k).flatMap enc
  | [], k => by simp
  | a :: r, 0 => by simp
  | a :: r, k + 1 => by
    rw [List.flatMap_cons, List.drop_succ_cons, ← flat_drop h r k, List.drop_append, h, List.drop_of_length_le (by rw [h, Nat.succ_mul]; omega), List.nil_append]
    congr 1
    rw [Nat.succ_mul]; omega

/-- v is the slice of a row that holds just the elements l. -/
def RowS (enc : α → List Value) (sz : Nat) (e : TypeId) (w : World) (v : Value) (l : List α) : Prop := w.ownsRow 0 e sz v l.length (l.flatMap enc)
variable {w w' : World} {e : TypeId} {v : Value} {l : List α}
theorem RowS.nil (enc : α → List Value) (sz : Nat) (e : TypeId) (w : World) : RowS enc sz e w (.slice none 0 0) [] := ⟨by simp, .inl ⟨rfl, rfl⟩⟩
theorem RowS.form (h : RowS enc sz e w v l) : ∃ A c, v = .slice A l.length c ∧ l.length ≤ c := by
  rcases h.2 with ⟨rfl, hx⟩ | ⟨g, cap, cur, rfl, _, _, hnc, _⟩
  · exact ⟨none, 0, by rw [hx], by omega⟩
  · exact ⟨_, _, rfl, hnc⟩
theorem RowS.at (he : ∀ x, (enc x).length = sz) (h : RowS enc sz e w v l) (hl : 0 < l.length) : ∃ g c, v = .slice (some ⟨g, 0, none⟩) l.length c ∧ l.length ≤ c ∧ g < w.heap.size ∧ ∀ i x, l[i]? = some x → ∀ j u, (enc x)[j]? = some u → w.cell? ⟨g, i * sz + j, none⟩ = some u := by
  rcases h.2 with ⟨rfl, hx⟩ | ⟨g, cap, cur, rfl, hb, hg, hnc, hm, hsz, ht⟩
  · rw [hx] at hl; omega
  · have hlt : g < w.heap.size := by
      rcases Nat.lt_or_ge g w.heap.size with hl | hl
      · exact hl
      · rw [Array.getElem?_eq_none hl] at hg; cases hg
    refine ⟨g, cap, rfl, hnc, hlt, fun i x hx j u hu => ?_⟩
    have hj : j < sz := by have := (List.getElem?_eq_some_iff.1 hu).1; rwa [he] at this
    rw [cell_of_row w g _ cur e (0, 0) hg]
    have h2 := flat_get he hx hj
    rw [hu, ← ht] at h2
    have h3 := (List.getElem?_eq_some_iff.1 h2).1
    rw [List.length_take] at h3
    rw [List.getElem?_take_of_lt (by omega)] at h2
    simpa using h2
theorem RowS.fr {S : List Nat} (hf : Fr S w w') (hg : ∀ g, v.ownBlock = some g → g ∉ S) (h : RowS enc sz e w v l) : RowS enc sz e w' v l := by
  refine ⟨h.1, ?_⟩
  rcases h.2 with h0 | ⟨g, cap, cur, rfl, hb, hh, rest⟩
  · exact .inl h0
  · have hl : g < w.heap.size := by
      rcases Nat.lt_or_ge g w.heap.size with hl | hl
      · exact hl
      · rw [Array.getElem?_eq_none hl] at hh; cases hh
    exact .inr ⟨g, cap, cur, rfl, hb, (hf.block g hl (hg g rfl)).trans hh, rest⟩
theorem RowS.grown {row : Option Nat} (hb : w.grownBy w' row) (hr : ∀ r, row = some r → ∃ o : Obj, w.heap[r]? = some o ∧ o.isCells = false) (h : RowS enc sz e w v l) : RowS enc sz e w' v l := by
  refine ⟨h.1, ?_⟩
  rcases h.2 with h0 | ⟨g, cap, cur, rfl, hb2, hh, rest⟩
  · exact .inl h0
  · have hl : g < w.heap.size := by
      rcases Nat.lt_or_ge g w.heap.size with hl | hl
      · exact hl
      · rw [Array.getElem?_eq_none hl] at hh; cases hh
    refine .inr ⟨g, cap, cur, rfl, hb2, (hb.block g hl (fun e2 => ?_)).trans hh, rest⟩
    obtain ⟨o, ho, hc⟩ := hr g e2.symm
    rw [hh] at ho; cases ho; cases hc
theorem RowS.blk (h : RowS enc sz e w v l) {g : Nat} (hg : v.ownBlock = some g) : ∃ cs, Blk w g e cs := by
  rcases h.2 with ⟨rfl, _⟩ | ⟨g', cap, cur, rfl, hb, hh, rest⟩
  · cases hg
  · injection hg with hk
    have hk : g' = g := hk
    subst hk
    exact ⟨cur, hh⟩
theorem RowS.lt (h : RowS enc sz e w v l) : ∀ g, v.ownBlock = some g → g < w.heap.size := fun g hg => by obtain ⟨cs, B⟩ := h.blk hg; exact B.lt
theorem RowS.src (h : RowS enc sz e w v l) {A : Option Addr} {n c : Nat} (hv : v = .slice A n c) : Src w A (l.flatMap enc) := by
  obtain ⟨A', c', h1, _⟩ := h.form
  subst hv
  injection h1 with e1 e2 e3
  subst e1; subst e2; subst e3
  exact Src.ownS h
theorem src_blk {w : World} {e : TypeId} {g : Nat} {xs : List Value} (h : Blk w g e xs.toArray) : Src w (some ⟨g, 0, none⟩) xs := fun _ => ⟨g, 0, rfl, h.lt, fun j u hu => by rw [Nat.zero_add, h.cell]; simpa using hu⟩
end

section
variable {α : Type} {enc : α → List Value} {sz : Nat} {P : Program} (w : World)
theorem run_appG (t ty e : TypeId) (he : Enc P enc sz t e) (v : Value) (l : List α) (hown : RowS enc sz e w v l) (A : Option Addr) (m c : Nat) (ys : List α) (hl : ys.length = m) (hs : Src w A (ys.flatMap enc)) (h63 : l.length + m ≤ 1000000) :
    ∃ v' w', (Builtin.append_ #[t, t] ty #[v, .slice A m c]).run P w = .ok v' w' ∧ RowS enc sz e w' v' (l ++ ys) ∧ Fr v.ownBlock.toList w w' ∧ (v'.ownBlock = v.ownBlock ∨ v'.ownBlock = some w.heap.size) := by
  obtain ⟨i, z, hi, hz, hsize, hzs, hby⟩ := he.inf
  have hb : (l.length + m) * i.bytes ≤ 140737488355328 := Nat.le_trans (Nat.mul_le_mul h63 hby) (by omega)
  have hx : l.length + m ≤ maxLen := by simp only [maxLen]; omega
  rcases A with _ | ad
  · have hn : ys = [] := by
      rcases ys with _ | ⟨y, r⟩
      · rfl
      · exfalso
        have : ((y :: r).flatMap enc) ≠ [] := fun h0 => by
          have h1 := flat_len he.len (y :: r)
          rw [h0] at h1
          have := he.pos
          simp [Nat.succ_mul] at h1
          omega
        obtain ⟨g, o, hA, _⟩ := hs this
        cases hA
    subst hn
    have hm : m = 0 := by simpa using hl.symm
    subst hm
    refine ⟨v, w, ?_, by simpa using hown, Fr.refl _ _, .inl rfl⟩
    rcases hown.2 with ⟨rfl, _⟩ | ⟨g, cap, cur, rfl, _, _, hnc, _⟩
    · simp [Builtin.append_, run_underlying he.und, sizeOf, typeInfo, hi, Builtin.lenOf, Builtin.firstCells]
    · simp [Builtin.append_, run_underlying he.und, sizeOf, typeInfo, hi, Builtin.lenOf, Builtin.firstCells, hnc, storeCells]
  · have hc : ∀ j u, (ys.flatMap enc)[j]? = some u → w.cell? (ad.add j) = some u := fun j u hu => by
      have hn : (ys.flatMap enc) ≠ [] := by intro h0; rw [h0] at hu; simp at hu
      obtain ⟨g, o, hA, _, hc⟩ := hs hn
      injection hA with hA
      subst hA
      have h0 := hc j u hu
      unfold Addr.add
      split
      · rename_i hj
        subst hj
        simpa using h0
      · simpa using h0
    have h1 : ∀ u ∈ (ys.flatMap enc), u.oneCell' = true := fun u hu => by
      obtain ⟨y, _, hy⟩ := List.mem_flatMap.1 hu
      exact he.one y u hy
    obtain ⟨v', w', h1, h2, h3, _, h5⟩ := run_append_own_at (P := P) w 0 t ty e i z sz i.bytes he.und hi hz hsize rfl hzs he.pos v l.length (l.flatMap enc) hown ad m c (ys.flatMap enc) (by rw [flat_len he.len, hl]) hc h1 hx hb (by omega)
    refine ⟨v', w', h1, ?_, ⟨h3.os, h3.tape, h3.output, h3.size, fun k hk hn => h3.block k hk (fun e2 => hn (by rw [← e2]; simp))⟩, h5⟩
    have e1 : (l ++ ys).flatMap enc = l.flatMap enc ++ ys.flatMap enc := List.flatMap_append
    have e2 : (l ++ ys).length = l.length + m := by rw [List.length_append, hl]
    unfold RowS
    rw [e1, e2]; exact h2
/-- append at a step of a region. -/
theorem step_appG {ops : Array Oper} {o : Oper} {a : Act} {K : Act → World → Prop} {Q : Exit → Act → World → Prop} {E : Prop} (hgd : o.guard = none) (s x : Operand) (t e : TypeId)
    (ho : o.op = .call { callee := .builtin .append, args := #[s, x], argTypes := #[t, t] }) (he : Enc P enc sz t e) (v : Value) (l : List α) (hv : a.eval s = v) (hown : RowS enc sz e w v l)
    (A : Option Addr) (m c : Nat) (ys : List α) (hx : a.eval x = .slice A m c) (hl : ys.length = m) (hs : Src w A (ys.flatMap enc)) (h63 : l.length + m ≤ 1000000)
    (h : ∀ v' w', RowS enc sz e w' v' (l ++ ys) → Fr v.ownBlock.toList w w' → (v'.ownBlock = v.ownBlock ∨ v'.ownBlock = some w.heap.size) → K (a.put o.dst v') w') :
    if Region.wanted o (yielded ops a.tmps) = true then Oper.wp P o a w K Q else E := by
  rw [if_pos (by simp [Region.wanted, hgd])]
  obtain ⟨v', w', hrun, h2, h3, h4⟩ := run_appG (P := P) w t o.type e he v l hown A m c ys hl hs h63
  unfold Oper.wp execOp
  simp only [ho, resolve, invoke, builtin, Sem.run_bind, Sem.run_pure, Result.andThen_ok, List.map_toArray, List.map_cons, List.map_nil, hv, hx, hrun]
  exact h v' w' h2 h3 h4
theorem wpList_appG {ops : Array Oper} {rest : List Oper} {o : Oper} {a : Act} {Q : Exit → Act → World → Prop} (hgd : o.guard = none) (s x : Operand) (t e : TypeId)
    (ho : o.op = .call { callee := .builtin .append, args := #[s, x], argTypes := #[t, t] }) (he : Enc P enc sz t e) (v : Value) (l : List α) (hv : a.eval s = v) (hown : RowS enc sz e w v l)
    (A : Option Addr) (m c : Nat) (ys : List α) (hx : a.eval x = .slice A m c) (hl : ys.length = m) (hs : Src w A (ys.flatMap enc)) (h63 : l.length + m ≤ 1000000)
    (h : ∀ v' w', RowS enc sz e w' v' (l ++ ys) → Fr v.ownBlock.toList w w' → (v'.ownBlock = v.ownBlock ∨ v'.ownBlock = some w.heap.size) → wpList P ops Q rest (a.put o.dst v') w') : wpList P ops Q (o :: rest) a w :=
  wpList_plain hgd fun K hK => by
    have := step_appG (P := P) (ops := ops) w (o := o) (a := a) (K := K) (Q := Q) (E := False) hgd s x t e ho he v l hv hown A m c ys hx hl hs h63 fun v' w' h1 h2 h3 => hK _ _ (h v' w' h1 h2 h3)
    rwa [if_pos (by simp [Region.wanted, hgd])] at this
end
end Go.Proofs.Ytkimldeagndgjaa

/- A side's orders in their order: plain facts. -/
namespace Go.Proofs.Ytkimldeagndgjaa
set_option linter.unusedVariables false
set_option linter.unusedSimpArgs false
open Go.RowKit

theorem rmv_head' {N : Nat} {L : List Ord} {s : Int} {o : Ord} {Y : List Ord} (hL : GoodL N L) (hY : OfL s L (o :: Y)) : OfL s (rmv o.id L) Y ∧ (rmv o.id L).length + 1 = L.length := by
  have hnd : ∀ y ∈ Y, y.id ≠ o.id := by
    intro y hy e
    have e2 : y = o := hL.eq_of_id (hY.mem.1 (by simp [hy])).1 (hY.mem.1 (by simp)).1 e
    subst e2
    obtain ⟨A, B, rfl⟩ := List.append_of_mem hy
    have h1 := hY.2 y.pr
    have h2 : (L.filter fun a => decide (a.sd = s ∧ a.pr = y.pr)).Sublist L := List.filter_sublist
    rw [← h1] at h2
    have h3 : [y, y].Sublist ((y :: (A ++ y :: B)).filter fun a => decide (a.pr = y.pr)) := by
      have : ([y, y].filter fun a => decide (a.pr = y.pr)).Sublist ((y :: (A ++ y :: B)).filter fun a => decide (a.pr = y.pr)) := List.Sublist.filter _ (by simp)
      simp at this ⊢
    have h4 := (h3.trans h2).map (·.id)
    have := h4.nodup hL.nd
    simp at this
  have h1 := rmv_of (id := o.id) hY
  have h2 : rmv o.id (o :: Y) = Y := by
    unfold rmv
    rw [List.filter_cons, if_neg (by simp), List.filter_eq_self.2]
    intro y hy
    simpa using hnd y hy
  rw [h2] at h1
  refine ⟨h1, ?_⟩
  have ho : o ∈ L := (hY.mem.1 (by simp)).1
  obtain ⟨A, B, hAB⟩ := List.append_of_mem ho
  have hn := hL.nd
  rw [hAB] at hn ⊢
  simp only [List.map_append, List.map_cons] at hn
  have n1 := List.nodup_append.1 hn
  have n2 := List.nodup_cons.1 n1.2.1
  unfold rmv
  rw [List.filter_append, List.filter_cons, if_neg (by simp), List.filter_eq_self.2, List.filter_eq_self.2]
  · simp; omega
  · intro y hy
    simpa using fun e : y.id = o.id => n2.1 (e ▸ List.mem_map.2 ⟨y, hy, rfl⟩)
  · intro y hy
    simpa using fun e : y.id = o.id => n1.2.2 y.id (List.mem_map.2 ⟨y, hy, rfl⟩) o.id (by simp) e
theorem OfL.len' {N : Nat} {L : List Ord} {s : Int} {Y : List Ord} (hL : GoodL N L) (hY : OfL s L Y) : Y.length ≤ L.length := by
  have hp : ∀ x ∈ Y, x ∈ L := fun x hx => (hY.mem.1 hx).1
  have hnd : Y.Nodup := by
    rw [List.nodup_iff_count]
    intro a
    have h2 : Y.count a = (Y.filter (fun x => decide (x.pr = a.pr))).count a := by rw [List.count_filter (by simp)]
    rw [h2, hY.2 a.pr]
    have : L.Nodup := by
      have h1 := hL.nd
      rw [List.nodup_iff_pairwise_ne, List.pairwise_map] at h1
      exact h1.imp fun h e => h (by rw [e])
    exact List.nodup_iff_count.1 (this.filter _) a
  exact List.Nodup.length_le_of_subset hnd hp
end Go.Proofs.Ytkimldeagndgjaa

/- Plans: words, and the small functions of sweep, walked. -/
namespace Go.Proofs.Ytkimldeagndgjaa
set_option linter.unusedVariables false
set_option linter.unusedSimpArgs false
open Go.RowKit

/-- A fill of a resting order. -/
structure Fil where
  id : Int
  pr : Int
  qt : Int
  gn : Bool
deriving DecidableEq, Inhabited
abbrev encF (f : Fil) : List Value := [.int .i64 f.id, .int .i64 f.pr, .int .i64 f.qt, .bool f.gn]
theorem info_fill : (Try.prog.info? 88).map (fun i => (i.zero.isSome, i.size, (i.zero.map (·.cells.size)), decide (i.bytes ≤ 1000000))) = some (true, 4, some 4, true) := by kernel_rfl
theorem encF_ok : Enc Try.prog encF 4 80 88 := by
  refine ⟨fun _ => rfl, fun x u hu => ?_, by omega, Try.underlying80, ?_⟩
  · simp only [encF, List.mem_cons, List.not_mem_nil, or_false] at hu
    rcases hu with rfl | rfl | rfl | rfl <;> rfl
  · have h := info_fill
    cases hi : Try.prog.info? 88 with
    | none => rw [hi] at h; cases h
    | some i =>
      rw [hi] at h
      simp only [Option.map_some, Option.some.injEq, Prod.mk.injEq] at h
      obtain ⟨h1, h2, h3, h4⟩ := h
      obtain ⟨z, hz⟩ := Option.isSome_iff_exists.1 h1
      rw [hz] at h3
      exact ⟨i, z, rfl, hz, h2, by simpa using h3, of_decide_eq_true h4⟩
abbrev RowF (w : World) (v : Value) (l : List Fil) : Prop := RowS encF 4 88 w v l

def isSide (s : Int) : Bool := s == 0 || s == 1
theorem other_any (w : World) (s : Int) : Calls Try.prog 54 #[.int .i64 s] w fun e w' => e = .returned (.tuple #[.int .i64 (IntKind.i64.wrap (1 - s)), .bool (isSide s)]) ∧ w = w' := by
  rcases (show s = 0 ∨ s = 1 ∨ ((s == 0) = false ∧ (s == 1) = false) by by_cases a : s = 0 <;> by_cases b : s = 1 <;> simp [a, b]) with rfl | rfl | ⟨h0, h1⟩
  · go_enter Try.func54, Try.ntmps54
    go_wp2_with fail
    go_ret2
    exact ⟨rfl, rfl⟩
  · go_enter Try.func54, Try.ntmps54
    go_wp2_with fail
    go_ret2
    exact ⟨rfl, rfl⟩
  · have e : isSide s = false := by simp [isSide, h0, h1]
    rw [e]
    generalize hz : IntKind.i64.wrap (1 - s) = z
    go_enter Try.func54, Try.ntmps54
    go_wp2_with fail
    go_ret2
    exact ⟨rfl, rfl⟩
def worseB (s p lim : Int) : Bool := !(lim == 0) && betterB s p lim
theorem worse_any (w : World) (s p lim : Int) : Calls Try.prog 55 #[.int .i64 s, .int .i64 p, .int .i64 lim] w fun e w' => e = .returned (.bool (worseB s p lim)) ∧ w = w' := by
  by_cases h : lim = 0
  · subst h
    go_enter Try.func55, Try.ntmps55
    go_wp2_with fail
    go_ret
    exact ⟨rfl, rfl⟩
  · have h0 : (lim == 0) = false := by simpa using h
    have h1 : (lim != 0) = true := by simpa using h
    have e : worseB s p lim = betterB s p lim := by simp [worseB, h0]
    rw [e]
    generalize hb : betterB s p lim = bb
    have HB := Lib.hid (fun W => hb ▸ better_any W s p lim)
    clear hb h e
    go_enter Try.func55, Try.ntmps55
    go_wp2_with fail
    refine (HB.out w).mono ?_
    rintro e w1 ⟨rfl, rfl⟩
    go_wp2_with fail
    go_ret
    exact ⟨rfl, rfl⟩

set_option maxHeartbeats 1000000 in
theorem planPut (w : World) (p : Nat) (v : Value) (left stop : Int) (fs : List Fil) (hB : Blk w p 82 #[v, .int .i64 left, .int .i64 stop]) (hR : RowF w v fs) (hl : fs.length ≤ 10000) (o : Ord) (q : Int) (g : Bool) :
    Calls Try.prog 102 #[.pointer (some ⟨p, 0, none⟩), .agg o.a, .int .i64 q, .bool g] w fun e w' => e = .returned (.tuple #[]) ∧ ∃ v', Fr (p :: v.ownBlock.toList) w w' ∧ (v'.ownBlock = v.ownBlock ∨ ∃ g, v'.ownBlock = some g ∧ w.heap.size ≤ g) ∧
      Blk w' p 82 #[v', .int .i64 left, .int .i64 stop] ∧ RowF w' v' (fs ++ [⟨o.id, o.pr, q, g⟩]) := by
  have hvp : ∀ k, v.ownBlock = some k → k ≠ p := fun k hk => by
    obtain ⟨cs, B⟩ := hR.blk hk
    exact B.ne hB (by decide)
  have hvl := hR.lt
  have hpl := hB.lt
  have HL := Lib.hid hl
  obtain ⟨A, c, rfl, hc⟩ := hR.form
  have HR := Lib.hid hR
  have HC := Lib.hid hc
  clear hl hR hc
  go_enter Try.func102, Try.ntmps102
  go_wp2_with fail
  refine wp_name (fun W0 hW => ?_)
  have B0 := Blk.box0 hW
  have F0 : Fr [] w W0 := Fr.eqv hW (by with_reducible repeat (first | exact Fr.refl _ _ | assumption | apply Fr.drew | apply Fr.drewN | apply Fr.alloc | (apply Fr.step; assumption; (intro _ h; (first | exact h | (focus (simp_all; done))))) | (apply Fr.setIn; (first | exact List.mem_cons_self | exact List.mem_cons_of_mem _ List.mem_cons_self | exact List.mem_cons_of_mem _ (List.mem_cons_of_mem _ List.mem_cons_self) | exact List.mem_cons_of_mem _ (List.mem_cons_of_mem _ (List.mem_cons_of_mem _ List.mem_cons_self)))) | (apply Fr.setNew; (first | omega | (simp; omega)))))
  have P0 := Blk.via F0 (by simp) hB
  have R0 := HR.out.fr F0 (by simp)
  have z0 : W0.heap.size = w.heap.size + 1 := by rw [hW]; simp
  clear hW
  refine u_region (S := fun w' => w'.cell? ⟨p, 0, none⟩ = some (.slice A fs.length c) ∧ ∀ i, w'.cell? ⟨w.heap.size, i, none⟩ = (o.a)[i]?) 16 (by kernel_rfl) (by kernel_rfl) (by kernel_rfl) (by kernel_rfl) (by kernel_rfl) ⟨(P0.drew.cell 0).trans rfl, fun i => B0.drew.cell i⟩ ?_
  (refine u_take 0 (v := ?_) rfl rfl (by kernel_rfl) (by kernel_rfl) (fun _ _ _ h => h) (Or.inl ⟨by rfl, ?_⟩) ?_; rotate_left; (focus (intro wz hSw; (try dsimp only at hSw); go_simp; (try with_reducible rfl))); (try simp only [Act.put, List.getElem_toArray, List.getElem_cons_succ, List.getElem_cons_zero, List.setIfInBounds_toArray, List.set_cons_zero, List.set_cons_succ]))
  (refine u_take 1 (v := ?_) rfl rfl (by kernel_rfl) (by kernel_rfl) (fun _ _ _ h => h) (Or.inl ⟨by rfl, ?_⟩) ?_; rotate_left; (focus (intro wz hSw; (try dsimp only at hSw); go_simp; (try with_reducible rfl))); (try simp only [Act.put, List.getElem_toArray, List.getElem_cons_succ, List.getElem_cons_zero, List.setIfInBounds_toArray, List.set_cons_zero, List.set_cons_succ]))
  (refine u_take 2 (v := ?_) rfl rfl (by kernel_rfl) (by kernel_rfl) (fun _ _ _ h => h) (Or.inl ⟨by rfl, ?_⟩) ?_; rotate_left; (focus (intro wz hSw; (try dsimp only at hSw); go_simp; (try with_reducible rfl))); (try simp only [Act.put, List.getElem_toArray, List.getElem_cons_succ, List.getElem_cons_zero, List.setIfInBounds_toArray, List.set_cons_zero, List.set_cons_succ]))
  (refine u_take 3 (v := ?_) rfl rfl (by kernel_rfl) (by kernel_rfl) (fun _ _ _ h => h) (Or.inl ⟨by rfl, ?_⟩) ?_; rotate_left; (focus (intro wz hSw; (try dsimp only at hSw); go_simp; (try with_reducible rfl))); (try simp only [Act.put, List.getElem_toArray, List.getElem_cons_succ, List.getElem_cons_zero, List.setIfInBounds_toArray, List.set_cons_zero, List.set_cons_succ]))
  (refine u_take 4 (v := ?_) rfl rfl (by kernel_rfl) (by kernel_rfl) (fun _ _ _ h => h) (Or.inl ⟨by rfl, ?_⟩) ?_; rotate_left; (focus (intro wz hSw; (try dsimp only at hSw); go_simp; (try with_reducible rfl))); (try simp only [Act.put, List.getElem_toArray, List.getElem_cons_succ, List.getElem_cons_zero, List.setIfInBounds_toArray, List.set_cons_zero, List.set_cons_succ]))
  (refine u_take 5 (v := ?_) rfl rfl (by kernel_rfl) (by kernel_rfl) (fun _ _ _ h => h) (Or.inl ⟨by rfl, ?_⟩) ?_; rotate_left; (focus (intro wz hSw; (try dsimp only at hSw); go_simp; (try with_reducible rfl))); (try simp only [Act.put, List.getElem_toArray, List.getElem_cons_succ, List.getElem_cons_zero, List.setIfInBounds_toArray, List.set_cons_zero, List.set_cons_succ]))
  (refine u_take 6 (v := ?_) rfl rfl (by kernel_rfl) (by kernel_rfl) (fun _ _ _ h => h) (Or.inl ⟨by rfl, ?_⟩) ?_; rotate_left; (focus (intro wz hSw; (try dsimp only at hSw); go_simp; (try with_reducible rfl))); (try simp only [Act.put, List.getElem_toArray, List.getElem_cons_succ, List.getElem_cons_zero, List.setIfInBounds_toArray, List.set_cons_zero, List.set_cons_succ]))
  (refine u_take 7 (v := ?_) rfl rfl (by kernel_rfl) (by kernel_rfl) (fun _ _ _ h => h) (Or.inl ⟨by rfl, ?_⟩) ?_; rotate_left; (focus (intro wz hSw; (try dsimp only at hSw); go_simp; (try with_reducible rfl))); (try simp only [Act.put, List.getElem_toArray, List.getElem_cons_succ, List.getElem_cons_zero, List.setIfInBounds_toArray, List.set_cons_zero, List.set_cons_succ]))
  (refine u_take 8 (v := ?_) rfl rfl (by kernel_rfl) (by kernel_rfl) (fun _ _ _ h => h) (Or.inl ⟨by rfl, ?_⟩) ?_; rotate_left; (focus (intro wz hSw; (try dsimp only at hSw); go_simp; (try with_reducible rfl))); (try simp only [Act.put, List.getElem_toArray, List.getElem_cons_succ, List.getElem_cons_zero, List.setIfInBounds_toArray, List.set_cons_zero, List.set_cons_succ]))
  (refine u_take 9 (v := ?_) rfl rfl (by kernel_rfl) (by kernel_rfl) (fun _ _ _ h => h) (Or.inl ⟨by rfl, ?_⟩) ?_; rotate_left; (focus (intro wz hSw; (try dsimp only at hSw); go_simp; (try with_reducible rfl))); (try simp only [Act.put, List.getElem_toArray, List.getElem_cons_succ, List.getElem_cons_zero, List.setIfInBounds_toArray, List.set_cons_zero, List.set_cons_succ]))
  (refine u_take 10 (v := ?_) rfl rfl (by kernel_rfl) (by kernel_rfl) (fun _ _ _ h => h) (Or.inl ⟨by rfl, ?_⟩) ?_; rotate_left; (focus (intro wz hSw; (try dsimp only at hSw); go_simp; (try with_reducible rfl))); (try simp only [Act.put, List.getElem_toArray, List.getElem_cons_succ, List.getElem_cons_zero, List.setIfInBounds_toArray, List.set_cons_zero, List.set_cons_succ]))
  (refine u_take 11 (v := ?_) rfl rfl (by kernel_rfl) (by kernel_rfl) (fun _ _ _ h => h) (Or.inl ⟨by rfl, ?_⟩) ?_; rotate_left; (focus (intro wz hSw; (try dsimp only at hSw); go_simp; (try with_reducible rfl))); (try simp only [Act.put, List.getElem_toArray, List.getElem_cons_succ, List.getElem_cons_zero, List.setIfInBounds_toArray, List.set_cons_zero, List.set_cons_succ]))
  refine u_one 12 (by kernel_rfl) rfl rfl (fun Kq hKq => ?_)
  go_simp
  refine hKq _ _ ⟨((P0.drew.alloc _).cell 0).trans rfl, fun i => (B0.drew.alloc _).cell i⟩ ?_
  clear hKq Kq
  (try simp only [Act.put, List.getElem_toArray, List.getElem_cons_succ, List.getElem_cons_zero, List.setIfInBounds_toArray, List.set_cons_zero, List.set_cons_succ])
  refine u_one 13 (by kernel_rfl) rfl rfl (fun Kq hKq => ?_)
  refine step_appG _ rfl (.tmp 12) (.tmp 20) 80 88 rfl encF_ok (.slice A fs.length c) fs rfl ?ow (some ⟨w.heap.size + 1, 0, none⟩) 1 1 [⟨o.id, o.pr, q, g⟩] rfl rfl ?sr ?bd ?_
  case ow => exact R0.fr (S := []) (((Fr.refl _ _).alloc _).drew) (by simp)
  case sr => exact src_blk (e := 88) (Blk.newAt (w := W0) rfl z0.symm)
  case bd => have := HL.out; omega
  intro v' w3 R3 F3 hv'
  have nb : w.heap.size ∉ (Value.slice A fs.length c).ownBlock.toList := fun hm => by have := hvl _ (by simpa using hm); omega
  have np : p ∉ (Value.slice A fs.length c).ownBlock.toList := fun hm => hvp _ (by simpa using hm) rfl
  have B3 := Blk.via F3 nb (B0.drew.alloc _)
  have P3 := Blk.via F3 np (P0.drew.alloc _)
  refine hKq _ _ ⟨(P3.cell 0).trans rfl, fun i => B3.cell i⟩ ?_
  clear hKq Kq
  (try simp only [Act.put, List.getElem_toArray, List.getElem_cons_succ, List.getElem_cons_zero, List.setIfInBounds_toArray, List.set_cons_zero, List.set_cons_succ])
  (refine u_take 14 (v := ?_) rfl rfl (by kernel_rfl) (by kernel_rfl) (fun _ _ _ h => h) (Or.inl ⟨by rfl, ?_⟩) ?_; rotate_left; (focus (intro wz hSw; (try dsimp only at hSw); go_simp; (try with_reducible rfl))); (try simp only [Act.put, List.getElem_toArray, List.getElem_cons_succ, List.getElem_cons_zero, List.setIfInBounds_toArray, List.set_cons_zero, List.set_cons_succ]))
  (refine u_take 15 (v := ?_) rfl rfl (by kernel_rfl) (by kernel_rfl) (fun _ _ _ h => h) (Or.inl ⟨by rfl, ?_⟩) ?_; rotate_left; (focus (intro wz hSw; (try dsimp only at hSw); go_simp; (try with_reducible rfl))); (try simp only [Act.put, List.getElem_toArray, List.getElem_cons_succ, List.getElem_cons_zero, List.setIfInBounds_toArray, List.set_cons_zero, List.set_cons_succ]))
  refine u_last (by kernel_rfl) rfl (by kernel_rfl) ?_
  have F03 : Fr (Value.slice A fs.length c).ownBlock.toList w w3 := ((F0.drew.alloc _).mono (by simp)).trans F3
  have s3 : w.heap.size ≤ w3.heap.size := F03.size
  have hpw : ∀ k, v'.ownBlock = some k → k ≠ p := fun k hk => by
    obtain ⟨cs, B⟩ := R3.blk hk
    exact B.ne P3 (by decide)
  have HR3 := Lib.hid R3
  have HV := Lib.hid hv'
  have HPW := Lib.hid hpw
  obtain ⟨A', c', hv3, _⟩ := R3.form
  simp only [List.length_append, List.length_cons, List.length_nil, Nat.zero_add] at hv3
  subst hv3
  have c3 := P3.cell
  have f3 := P3.frozen
  have l3 := P3.lt
  clear R3 hv' hpw F3 B3
  go_wp2_with fail
  go_end0
  refine ⟨rfl, _, ?_, ?_, (P3.same 0 _).cast rfl, HR3.out.fr (S := [p]) (Fr.setIn List.mem_cons_self (Fr.refl _ _)) (fun k hk hm => HPW.out k hk (List.mem_singleton.1 hm))⟩
  · exact (F03.mono (fun x hx => List.mem_cons_of_mem _ hx)).setIn List.mem_cons_self
  · rcases HV.out with h | h
    · exact .inl h
    · refine .inr ⟨_, h, ?_⟩
      show w.heap.size ≤ (W0.alloc _).heap.size
      rw [World.size_alloc]; omega
end Go.Proofs.Ytkimldeagndgjaa

/- What an order that comes would trade (sweep.Make), walked. -/
namespace Go.Proofs.Ytkimldeagndgjaa
set_option linter.unusedVariables false
set_option linter.unusedSimpArgs false
open Go.RowKit Go.Shelf
attribute [local go_sem] Oper.semAt_some

/-- A taker. -/
structure Tak where
  sd : Int
  ow : Int
  lim : Int
  qt : Int
  lo : Int
  hi : Int
  sf : Int
abbrev Tak.a (t : Tak) : Array Value := #[.int .i64 t.sd, .int .i64 t.ow, .int .i64 t.lim, .int .i64 t.qt, .int .i64 t.lo, .int .i64 t.hi, .int .i64 t.sf]
/-- What it trades with orders, one behind the other. -/
def mkL (t : Tak) : List Ord → List Fil → Int → List Fil × Int × Int
  | [], fs, left => (fs, left, if left = 0 then 0 else 1)
  | o :: r, fs, left =>
    if left = 0 then (fs, 0, 0) else if worseB t.sd o.pr t.lim = true then (fs, left, 1) else if ¬ (t.lo ≤ o.pr ∧ o.pr ≤ t.hi) then (fs, left, 2)
    else if t.sf = 0 ∨ o.ow ≠ t.ow then mkL t r (fs ++ [⟨o.id, o.pr, min left o.qt, false⟩]) (left - min left o.qt)
    else if t.sf = 1 then (fs, left, 3) else if t.sf = 3 then (fs ++ [⟨o.id, o.pr, o.qt, true⟩], left, 3) else mkL t r (fs ++ [⟨o.id, o.pr, o.qt, true⟩]) left

theorem make_in (w : World) (b3 : Nat) (t : Tak) (hB : Blk w b3 84 t.a) (p : Int) :
    Calls Try.prog 103 #[.int .i64 p, .pointer (some ⟨b3, 0, none⟩)] w fun e w' => e = .returned (.bool (decide (t.lo ≤ p) && decide (p ≤ t.hi))) ∧ w = w' := by
  have c := hB.cell
  by_cases h : t.lo ≤ p
  · go_enter Try.func103, Try.ntmps103
    go_wp2_with fail
    go_ret
    exact ⟨by simp [h], rfl⟩
  · go_enter Try.func103, Try.ntmps103
    go_wp2_with fail
    go_ret
    exact ⟨by simp; omega, rfl⟩

theorem info_plan : (Try.prog.info? 82).map (·.size) = some 3 := by kernel_rfl
theorem wpList_storeP {ops : Array Oper} {rest : List Oper} {p : Oper} {a : Act} {w : World} {Q : Exit → Act → World → Prop} (hgd : p.guard = none) (x y : Operand) (hp : p.op = .store 82 x y)
    (g : Nat) (old : Array Value) (A : Option Addr) (n c : Nat) (b c' : Int) (hx : a.eval x = .pointer (some ⟨g, 0, none⟩)) (hy : a.eval y = .agg #[.slice A n c, .int .i64 b, .int .i64 c']) (B : Blk w g 82 old) (h1 : old.size = 3)
    (h : ∀ w', Blk w' g 82 #[.slice A n c, .int .i64 b, .int .i64 c'] → Fr [g] w w' → wpList Try.prog ops Q rest (a.put p.dst undef) w') : wpList Try.prog ops Q (p :: rest) a w :=
  wpList_store_row hgd _ x y hp g _ hx hy _ _ B info_plan (by rw [h1]; rfl) (by simp [Value.oneCell'])
    (h _ (setRow_heap w g _ _ _ _ B) ⟨rfl, rfl, rfl, by simp [World.setRow], fun k _ hk => setRow_other w g k _ (fun e => hk (by simp [e]))⟩)
/-- How Make ends: the result's cell is laid, the rounds' deferred calls are none. -/
theorem make_end {w w3 Wc W4 : World} {Dd : Nat} {fs : List Fil} {v : Value} {S : List Nat} (hD : w3.heap.size ≤ Dd) (F3 : Fr [] w w3) (G : Fr S w3 Wc) (hS : ∀ x ∈ S, w.heap.size ≤ x ∧ x < w3.heap.size) (F4 : Fr S Wc W4) (GR : RowF Wc v fs) (hg : ∀ g, v.ownBlock = some g → w3.heap.size ≤ g) {o : Obj} (hK : Wc.heap[Dd]? = some o) (hc : o.isCells = false) (o' : Obj) :
    W4.heap[Dd]? = some o ∧ Fr [] w (W4.putObj Dd o') ∧ RowF (W4.putObj Dd o') v fs ∧ ∀ g, v.ownBlock = some g → w.heap.size ≤ g := by
  have h1 : W4.heap[Dd]? = some o := def_fr F4 hK (fun hm => by have := (hS _ hm).2; omega)
  have F : Fr [] w W4 := fr_fresh (G.trans F4) (fun x hx => (hS x hx).1) F3
  have hs := F3.size
  refine ⟨h1, fr_put F (by omega), ?_, fun g hg' => by have := hg g hg'; omega⟩
  refine RowS.grown (grownBy_putObj' W4 Dd o') (fun r e => by cases e; exact ⟨o, h1, hc⟩) (GR.fr F4 (fun g hg' hm => ?_))
  have := hg g hg'
  have := (hS g hm).2
  omega
theorem fr_grow {S R : List Nat} {a b c : World} (h : Fr S a b) (k : Fr (S ++ R) b c) (hR : ∀ x ∈ R, a.heap.size ≤ x) : Fr S a c :=
  ⟨k.os.trans h.os, k.tape.trans h.tape, k.output.trans h.output, Nat.le_trans h.size k.size, fun i hi hn => (k.block i (Nat.lt_of_lt_of_le hi h.size) (fun hm => by
    rcases List.mem_append.1 hm with e | e
    · exact hn e
    · have := hR i e; omega)).trans (h.block i hi hn)⟩
theorem BookI.lts' {w : World} {b N K : Nat} {D : List Nat} {L : List Ord} (h : BookI w b D N K L) : ∀ x ∈ D, x < w.heap.size := by
  obtain ⟨ba, bi, bs, bm, so, lp, bq, bn, be, v, bc, fl, m, ix, T, ord, P, rfl⟩ := h.pick 0 (.inl rfl)
  exact P.lt
theorem own_rowS {α β : Type} {enc : α → List Value} {sz : Nat} {e : TypeId} {B : Nat} (v : Value) (l : List α) : OwnFrom B (fun (_ : β) W => RowS enc sz e W v l) := fun _ _ _ _ hs hg hr => RowS.grown hg (fun r e => (hr r e).2) hs

set_option maxHeartbeats 4000000 in
set_option maxRecDepth 5000 in
theorem make_any (w : World) (b N K : Nat) (D : List Nat) (L : List Ord) (h : BookI w b D N K L) (t : Tak) (hs : t.sd = 0 ∨ t.sd = 1) (hq : 1 ≤ t.qt ∧ t.qt ≤ 9223372036854775807) (Y : List Ord) (hY : OfL (1 - t.sd) L Y) :
    Calls Try.prog 38 #[.pointer (some ⟨b, 0, none⟩), .agg t.a] w fun e w' => ∃ v, e = .returned (.agg #[v, .int .i64 (mkL t Y [] t.qt).2.1, .int .i64 (mkL t Y [] t.qt).2.2]) ∧ Fr [] w w' ∧ RowF w' v (mkL t Y [] t.qt).1 ∧ ∀ g, v.ownBlock = some g → w.heap.size ≤ g := by
  have hs1 : (1 - t.sd = 0 ∨ 1 - t.sd = 1) ∧ isSide t.sd = true ∧ IntKind.i64.wrap (1 - t.sd) = 1 - t.sd := by
    refine ⟨by omega, ?_, IntWalk.i64_in _ (by omega)⟩
    unfold isSide; rcases hs with e | e <;> rw [e] <;> rfl
  have hYl := OfL.len' h.goodL hY
  have hother := Lib.hid (fun W => other_any W t.sd)
  have hnq : ¬ t.qt < 1 := by omega
  have HQ := Lib.hid hq
  have HB := Lib.hid h
  have HY := Lib.hid hY
  have HS := Lib.hid hs1
  have HYl := Lib.hid hYl
  clear h hY hs hYl hq
  rw [hs1.2.1, hs1.2.2] at hother
  clear hs1
  have hmf : ∀ (fn : Fn) (first cap : Array Value) (w : World), (Instr.makeFunc fn first cap).run Try.prog w = .ok (.func fn first cap) w := fun _ _ _ _ => rfl
  have hst : ∀ (a : Addr) (fn : Fn) (first cap : Array Value) (w : World), (store a (.func fn first cap)).run Try.prog w = stored Try.prog w a (.func fn first cap) .plain := fun a fn first cap w => run_store Try.prog w a _ .plain rfl
  refine callsIn_wide.1 (callsIn_of_wp_marks (n := 0) Try.func38 rfl trivial ?_ rfl)
  simp only [Try.ntmps38, List.size_toArray, List.length_cons, List.length_nil, Nat.reduceAdd, Nat.reduceSub, Array.replicate_succ, Array.replicate_zero, List.push_toArray, List.append_toArray, List.nil_append, List.cons_append]
  refine wpIn_wide.2 ?_
  go_wp2_with fail
  go_step3
  go_wp2_with fail
  refine calls_named (fun W1 hW => ?_)
  have B3 : Blk W1 w.heap.size 84 t.a := Blk.box2 hW
  have B4 := Blk.box1 hW
  have B5 := Blk.box0 hW
  have F1 : Fr [] w W1 := Fr.eqv hW (by with_reducible repeat (first | exact Fr.refl _ _ | assumption | apply Fr.drew | apply Fr.drewN | apply Fr.alloc | (apply Fr.step; assumption; (intro _ h; (first | exact h | (focus (simp_all; done))))) | (apply Fr.setIn; (first | exact List.mem_cons_self | exact List.mem_cons_of_mem _ List.mem_cons_self | exact List.mem_cons_of_mem _ (List.mem_cons_of_mem _ List.mem_cons_self) | exact List.mem_cons_of_mem _ (List.mem_cons_of_mem _ (List.mem_cons_of_mem _ List.mem_cons_self)))) | (apply Fr.setNew; (first | omega | (simp; omega)))))
  have z1 : W1.heap.size = w.heap.size + 3 := by rw [hW]; simp
  simp only [World.size_alloc] at B4 B5
  clear hW
  refine (hother.out W1).mono ?_
  rintro e w1 ⟨rfl, rfl⟩
  have c3 := B3.cell
  go_wp2_with fail
  refine wp_name (fun W2 hW => ?_)
  have C8 := Blk.box1 hW
  have C9 := Blk.box0 hW
  have C3 := Blk.eqv hW ((B3.alloc _).alloc _)
  have C4 := Blk.eqv hW ((B4.alloc _).alloc _)
  have C5 := Blk.eqv hW ((B5.alloc _).alloc _)
  have F2 : Fr [] w W2 := Fr.eqv hW (by with_reducible repeat (first | exact Fr.refl _ _ | assumption | apply Fr.drew | apply Fr.drewN | apply Fr.alloc | (apply Fr.step; assumption; (intro _ h; (first | exact h | (focus (simp_all; done))))) | (apply Fr.setIn; (first | exact List.mem_cons_self | exact List.mem_cons_of_mem _ List.mem_cons_self | exact List.mem_cons_of_mem _ (List.mem_cons_of_mem _ List.mem_cons_self) | exact List.mem_cons_of_mem _ (List.mem_cons_of_mem _ (List.mem_cons_of_mem _ List.mem_cons_self)))) | (apply Fr.setNew; (first | omega | (simp; omega)))))
  have z2 : W2.heap.size = w.heap.size + 5 := by rw [hW]; simp [z1]
  simp only [World.size_alloc] at C9
  rw [z1] at C8 C9
  clear hW B3 B4 B5 c3 F1
  go_step3
  go_wp2_with fail
  refine (bEach_mk _ (.pointer (some ⟨b, 0, none⟩)) (1 - t.sd) ⟨_, rfl⟩).mono ?_
  rintro e w3 ⟨rfl, hW⟩
  have E1 := Blk.box1 hW.symm
  have E2 := Blk.box0 hW.symm
  have D8 := Blk.eqv hW.symm ((C8.alloc _).alloc _)
  have D9 := Blk.eqv hW.symm ((C9.alloc _).alloc _)
  have D3 := Blk.eqv hW.symm ((C3.alloc _).alloc _)
  have D4 := Blk.eqv hW.symm ((C4.alloc _).alloc _)
  have D5 := Blk.eqv hW.symm ((C5.alloc _).alloc _)
  have F3 : Fr [] w w3 := F2.trans (Fr.eqv hW.symm (by with_reducible repeat (first | exact Fr.refl _ _ | assumption | apply Fr.drew | apply Fr.drewN | apply Fr.alloc | (apply Fr.step; assumption; (intro _ h; (first | exact h | (focus (simp_all; done))))) | (apply Fr.setIn; (first | exact List.mem_cons_self | exact List.mem_cons_of_mem _ List.mem_cons_self | exact List.mem_cons_of_mem _ (List.mem_cons_of_mem _ List.mem_cons_self) | exact List.mem_cons_of_mem _ (List.mem_cons_of_mem _ (List.mem_cons_of_mem _ List.mem_cons_self)))) | (apply Fr.setNew; (first | omega | (simp; omega))))))
  have z3 : w3.heap.size = w.heap.size + 7 := by rw [← hW]; simp [z2]
  simp only [World.size_alloc] at E2
  rw [z2] at E1 E2
  clear hW C8 C9 C3 C4 C5 F2
  have hBk := HB.out.fr F3 (by simp)
  have hDl : ∀ x ∈ D, x < w.heap.size := HB.out.lts'
  go_wp2_with fail
  refine wp_name_act (fun A hA => ?_)
  have hA1 : A.eval (.tmp 33) = .func (.func 99) #[] #[.pointer (some ⟨(w.heap.size + 5), 0, none⟩), .pointer (some ⟨w.heap.size + 5 + 1, 0, none⟩)] := by rw [hA]; rfl
  have hTT : ∀ x ∈ (w.heap.size + 5) :: (w.heap.size + 5 + 1) :: D, x < w3.heap.size ∧ x ≠ w.heap.size + 1 ∧ x ≠ w.heap.size + 1 + 1 := by
    intro x hx
    rcases List.mem_cons.1 hx with rfl | hx
    · omega
    rcases List.mem_cons.1 hx with rfl | hx
    · omega
    have := hDl x hx; omega
  refine (wpIn_wide (n := 0)).1 (range_outerM hA1 (enters_of Try.func99 (by kernel_rfl) rfl)
    (bEach_own (w.heap.size + 5) (w.heap.size + 5 + 1) b N K D L (1 - t.sd) HS.out.1 Y HY.out w3 E1 E2 hBk) (Below.refl _ _) (fun _ => rfl) (fun x hx => (hTT x hx).1)
    (fun M pre Wc => ∃ (fs : List Fil) (left : Int) (v : Value), (M = v.ownBlock.toList ∧ (∀ rest, mkL t (pre ++ rest) [] t.qt = mkL t rest fs left) ∧ (0 ≤ left ∧ left ≤ t.qt) ∧ fs.length ≤ pre.length ∧ ∀ g, v.ownBlock = some g → w3.heap.size ≤ g) ∧ Fr [w.heap.size + 1 + 1] w3 Wc ∧ Blk Wc (w.heap.size + 1 + 1) 82 #[v, .int .i64 left, .int .i64 1] ∧ RowF Wc v fs)
    (fun c M pre Wc => ∃ (fs : List Fil) (left stop : Int) (v v4 : Value) (left4 stop4 : Int), ((∀ rest, mkL t (pre ++ rest) [] t.qt = (fs, left, stop)) ∧ (∀ g, v.ownBlock = some g → w3.heap.size ≤ g) ∧ ((c = .ret ∧ v4 = v ∧ left4 = left ∧ stop4 = stop) ∨ (c = .exit 0 ∧ left = 0 ∧ stop = 0))) ∧ Fr [w.heap.size + 1, w.heap.size + 1 + 1] w3 Wc ∧ Blk Wc (w.heap.size + 1 + 1) 82 #[v, .int .i64 left, .int .i64 (if stop = 0 then 1 else stop)] ∧ Blk Wc (w.heap.size + 1) 82 #[v4, .int .i64 left4, .int .i64 stop4] ∧ RowF Wc v fs)
    (fun M pre x a' Wc => ∃ (X : Nat) (fs : List Fil) (left : Int) (v : Value), (M = v.ownBlock.toList ∧ (∀ rest, mkL t (pre ++ rest) [] t.qt = mkL t rest fs left) ∧ (0 ≤ left ∧ left ≤ t.qt) ∧ fs.length ≤ pre.length ∧ (∀ g, v.ownBlock = some g → w3.heap.size ≤ g) ∧ w3.heap.size ≤ X ∧ a' = ⟨(A.tmps.setIfInBounds 34 (.agg x.a)).setIfInBounds 10 (.pointer (some ⟨X, 0, none⟩)), []⟩) ∧ Fr [w.heap.size + 1 + 1] w3 Wc ∧ Blk Wc (w.heap.size + 1 + 1) 82 #[v, .int .i64 left, .int .i64 1] ∧ RowF Wc v fs ∧ Blk Wc X 43 x.a)
    ?hI ?hIx ?hIa ?hIl ⟨[], t.qt, .slice none 0 0, ⟨rfl, fun rest => rfl, by have := HQ.out; omega, by simp, by simp [Value.ownBlock]⟩, Fr.refl _ _, D5, RowS.nil _ _ _ _⟩
    ?assign ?body ?done ?stop)
  case hI => exact fun M => own_ex fun fs => own_ex fun left => own_ex fun v => OwnFrom.and (own_pure _) (OwnFrom.and (ownFrom_fr (Nat.le_refl _)) (OwnFrom.and ((own_blk _ _ _).from _) (own_rowS _ _)))
  case hIx => exact fun c M => own_ex fun fs => own_ex fun left => own_ex fun stop => own_ex fun v => own_ex fun v4 => own_ex fun l4 => own_ex fun s4 => OwnFrom.and (own_pure _) (OwnFrom.and (ownFrom_fr (Nat.le_refl _)) (OwnFrom.and ((own_blk _ _ _).from _) (OwnFrom.and ((own_blk _ _ _).from _) (own_rowS _ _))))
  case hIa => exact fun M pre x => own_ex fun X => own_ex fun fs => own_ex fun left => own_ex fun v => OwnFrom.and (own_pure _) (OwnFrom.and (ownFrom_fr (Nat.le_refl _)) (OwnFrom.and ((own_blk _ _ _).from _) (OwnFrom.and (own_rowS _ _) ((own_blk _ _ _).from _))))
  case hIl =>
    rintro M pre Wc ⟨fs, left, v, ⟨rfl, _⟩, _, _, hR⟩ k hk
    exact hR.lt k (by simpa using hk)
  case assign =>
    rintro l M pre x Wc Kk ⟨fs, left, v, ⟨hM, hp⟩, G, G5, GR⟩ hpx hK
    subst hA
    simp only [List.setIfInBounds_toArray, List.set_cons_zero, List.set_cons_succ] at hK
    have HP := Lib.hid hp
    have HM := Lib.hid hM
    clear hp hM hA1 D3 D4 D5 D8 D9 E1 E2 hBk
    gi_wp2
    have FA : Fr [] Wc (Wc.alloc (.cells x.a 43)) := (Fr.refl _ _).alloc _
    refine hK _ _ (keeps_alloc _) (KeepM.of_fr FA (by simp) (fun y hy => ⟨Nat.lt_of_lt_of_le (hTT y hy).1 G.size, by simp⟩)) ⟨Wc.heap.size, fs, left, v, ⟨HM.out, HP.out.1, HP.out.2.1, HP.out.2.2.1, HP.out.2.2.2, G.size, rfl⟩, G.alloc _, G5.alloc _, GR.fr FA (by simp), Blk.new _ _ _⟩
  case done =>
    rintro Dd M Wc hD ⟨fs, left, v, ⟨rfl, hp, hle, _, hg⟩, G, G5, GR⟩ hK
    subst hA
    have hspec : mkL t Y [] t.qt = (fs, left, if left = 0 then 0 else 1) := by have := hp []; simpa [mkL] using this
    have G4 := Blk.via G (by simp) D4
    have hSS : ∀ x ∈ [w.heap.size + 1 + 1, w.heap.size + 1], w.heap.size ≤ x ∧ x < w3.heap.size := by intro x hx; simp at hx; omega
    have HSp := Lib.hid hspec
    have HG := Lib.hid hg
    have HK := Lib.hid hK
    have HSS := Lib.hid hSS
    have GG : Fr [w.heap.size + 1 + 1, w.heap.size + 1] w3 Wc := G.mono (by simp)
    obtain ⟨Av, cv, rfl, _⟩ := GR.form
    have c5 := G5.cell
    have f5 := G5.frozen
    have l5 := G5.lt
    clear hp hspec hg hK hSS hA1 D3 D4 D5 D8 D9 E1 E2 hBk
    by_cases h0 : left = 0
    · subst h0
      go_wp2_with (refine wpList_storeP rfl (.tmp 4) (.tmp 104) rfl (w.heap.size + 1) _ Av fs.length cv 0 0 rfl rfl (G4.off (by omega)) rfl ?_
                   intro W4 B4 F4)
      have F4' : Fr [w.heap.size + 1 + 1, w.heap.size + 1] Wc W4 := (Fr.setIn (o := 2) (u := .int .i64 0) List.mem_cons_self (Fr.refl _ _)).trans (F4.mono (by simp))
      obtain ⟨k1, k2, k3, k4⟩ := make_end hD F3 GG HSS.out F4' GR HG.out HK.out rfl (.deferred none)
      have c6 := (blk_put (o' := .deferred none) B4 k1 rfl).cell
      refine ⟨by simp, .inl ⟨_, _, rfl, run_takeDeferred k1, ?_⟩⟩
      refine ⟨.agg #[.slice Av fs.length cv, .int .i64 0, .int .i64 0], ?_, _, ?_, k2, ?_, k4⟩
      · simp [results, Try.f38, go_sem, c6]
      · rw [HSp.out]; rfl
      · rw [HSp.out]; exact k3
    · have h0' : (left == 0) = false := by simpa using h0
      have HN := Lib.hid h0
      clear h0
      go_wp2_with (refine wpList_storeP rfl (.tmp 4) (.tmp 104) rfl (w.heap.size + 1) _ Av fs.length cv left 1 rfl rfl G4 rfl ?_
                   intro W4 B4 F4)
      have F4' : Fr [w.heap.size + 1 + 1, w.heap.size + 1] Wc W4 := F4.mono (by simp)
      obtain ⟨k1, k2, k3, k4⟩ := make_end hD F3 GG HSS.out F4' GR HG.out HK.out rfl (.deferred none)
      have c6 := (blk_put (o' := .deferred none) B4 k1 rfl).cell
      refine ⟨by simp, .inl ⟨_, _, rfl, run_takeDeferred k1, ?_⟩⟩
      refine ⟨.agg #[.slice Av fs.length cv, .int .i64 left, .int .i64 1], ?_, _, ?_, k2, ?_, k4⟩
      · simp [results, Try.f38, go_sem, c6]
      · rw [HSp.out]; simp [HN.out]
      · rw [HSp.out]; exact k3
  case stop =>
    rintro Dd c M pre Wc hD hpre ⟨fs, left, stop, v, v4, left4, stop4, ⟨hp, hg, hc⟩, G, G5, G4, GR⟩ hK
    refine wpIn_wide.2 ?_
    subst hA
    have hspec : mkL t Y [] t.qt = (fs, left, stop) := by
      obtain ⟨r, hr⟩ := hpre
      rw [← hr]; exact hp r
    have hSS : ∀ x ∈ [w.heap.size + 1 + 1, w.heap.size + 1], w.heap.size ≤ x ∧ x < w3.heap.size := by intro x hx; simp at hx; omega
    have HSp := Lib.hid hspec
    have HG := Lib.hid hg
    have HK := Lib.hid hK
    have HSS := Lib.hid hSS
    have GG : Fr [w.heap.size + 1 + 1, w.heap.size + 1] w3 Wc := G.mono (by simp)
    obtain ⟨Av, cv, rfl, _⟩ := GR.form
    have c5 := G5.cell
    have f5 := G5.frozen
    have l5 := G5.lt
    clear hp hspec hg hK hSS hA1 D3 D4 D5 D8 D9 E1 E2 hBk
    rcases hc with ⟨rfl, rfl, rfl, rfl⟩ | ⟨rfl, rfl, rfl⟩
    · go_wp2_with fail
      obtain ⟨k1, k2, k3, k4⟩ := make_end hD F3 GG HSS.out (Fr.refl _ _) GR HG.out HK.out rfl (.deferred none)
      have c6 := (blk_put (o' := .deferred none) G4 k1 rfl).cell
      refine ⟨by simp, .inl ⟨_, _, rfl, run_takeDeferred k1, ?_⟩⟩
      refine ⟨.agg #[.slice Av fs.length cv, .int .i64 left4, .int .i64 stop4], ?_, _, ?_, k2, ?_, k4⟩
      · simp [results, Try.f38, go_sem, c6]
      · rw [HSp.out]
      · rw [HSp.out]; exact k3
    · simp only [if_true] at c5 G5
      go_wp2_with (refine wpList_storeP rfl (.tmp 4) (.tmp 104) rfl (w.heap.size + 1) _ Av fs.length cv 0 0 rfl rfl (G4.off (by omega)) rfl ?_
                   intro W4 B4 F4)
      have F4' : Fr [w.heap.size + 1 + 1, w.heap.size + 1] Wc W4 := (Fr.setIn (o := 2) (u := .int .i64 0) List.mem_cons_self (Fr.refl _ _)).trans (F4.mono (by simp))
      obtain ⟨k1, k2, k3, k4⟩ := make_end hD F3 GG HSS.out F4' GR HG.out HK.out rfl (.deferred none)
      have c6 := (blk_put (o' := .deferred none) B4 k1 rfl).cell
      refine ⟨by simp, .inl ⟨_, _, rfl, run_takeDeferred k1, ?_⟩⟩
      refine ⟨.agg #[.slice Av fs.length cv, .int .i64 0, .int .i64 0], ?_, _, ?_, k2, ?_, k4⟩
      · simp [results, Try.f38, go_sem, c6]
      · rw [HSp.out]
      · rw [HSp.out]; exact k3
  case body =>
    rintro l M pre x a' Wc hll _ ⟨X, fs, left, v, ⟨rfl, hp, hle, hlen, hg, hX, rfl⟩, G, G5, GR, GX⟩ hpx
    subst hA
    simp only [List.setIfInBounds_toArray, List.set_cons_zero, List.set_cons_succ]
    have G3 := Blk.via G (by simp <;> omega) D3
    have G4 := Blk.via G (by simp) D4
    have G8 := Blk.via G (by simp <;> omega) D8
    have G9 := Blk.via G (by simp <;> omega) D9
    have HP := Lib.hid hp
    have HG := Lib.hid hg
    have HL := Lib.hid hle
    have HLen := Lib.hid hlen
    have HPX := Lib.hid hpx
    obtain ⟨Av, cv, rfl, _⟩ := GR.form
    have c3 := G3.cell
    have c5 := G5.cell
    have f5 := G5.frozen
    have l5 := G5.lt
    have cX := GX.cell
    have c4 := G4.cell
    have f4 := G4.frozen
    have l4 := G4.lt
    have hFf : ∀ k, Fence.wide.fn k := fun _ => trivial
    have hFd : Fence.wide.depth = none := rfl
    clear hp hg hle hlen hpx hA1 D3 D4 D5 D8 D9 E1 E2 hBk
    have hcons : ∀ rest, mkL t (pre ++ [x] ++ rest) [] t.qt = mkL t (x :: rest) fs left := fun rest => by rw [List.append_assoc, HP.out]; rfl
    have HCo := Lib.hid hcons
    clear hcons
    by_cases h0 : left = 0
    · subst h0
      gi_wp2
      exact ⟨KeepsFrom.refl _ _, [], fs, 0, 0, _, _, _, _, ⟨fun rest => by rw [HCo.out]; simp [mkL], HG.out, .inr ⟨rfl, rfl, rfl⟩⟩, G.mono (by simp), G5, G4, GR⟩
    · have h0' : (left == 0) = false := by simpa using h0
      have HN := Lib.hid h0
      clear h0
      gi_wp2
      refine (CallsIn.inRound l (callsIn_wide.2 (worse_any _ t.sd x.pr t.lim))).mono ?_
      rintro e w' ⟨rfl, rfl⟩
      generalize hw : worseB t.sd x.pr t.lim = wb
      have HW := Lib.hid hw
      clear hw
      cases wb
      · have hin := Lib.hid (make_in Wc w.heap.size t G3 x.pr)
        have c9 := G9.cell
        gi_wp2
        refine (CallsIn.inRound l (callsIn_wide.2 hin.out)).mono ?_
        rintro e w' ⟨rfl, rfl⟩
        clear c9 hin
        generalize hb : (decide (t.lo ≤ x.pr) && decide (x.pr ≤ t.hi)) = bb
        have HBB := Lib.hid hb
        clear hb
        have hxg := HB.out.goodL.good x (HY.out.mem.1 (HPX.out.subset (by simp))).1
        have hle1 : fs.length ≤ 10000 := by
          have h1 := HLen.out
          have h2 := HPX.out.length_le
          have h3 := HYl.out
          have h4 := HB.out.goodL.len
          have h5 := HB.out.goodL.N2
          simp at h2; omega
        have HLE := Lib.hid hle1
        have HX := Lib.hid hxg.qt
        have own3 : ∀ k ∈ (Value.slice Av fs.length cv).ownBlock.toList, w3.heap.size ≤ k := fun k hk => HG.out k (by simpa using hk)
        have HOW := Lib.hid own3
        have kf : ∀ {W' : World}, Fr ((w.heap.size + 1 + 1) :: (Value.slice Av fs.length cv).ownBlock.toList) Wc W' → KeepsFrom w3.heap.size Wc W' := fun F => keeps_frM F (fun k hk => by
          rcases List.mem_cons.1 hk with rfl | hk
          · exact .inl (by omega)
          · obtain ⟨cs, B⟩ := GR.blk (show (Value.slice Av fs.length cv).ownBlock = some k by simpa using hk)
            exact .inr ⟨_, _, B⟩)
        have km : ∀ {W' : World}, Fr ((w.heap.size + 1 + 1) :: (Value.slice Av fs.length cv).ownBlock.toList) Wc W' → KeepM w3.heap.size (Value.slice Av fs.length cv).ownBlock.toList ((w.heap.size + 5) :: (w.heap.size + 5 + 1) :: D) Wc W' := fun F => KeepM.of_fr F (fun k hk => by
          rcases List.mem_cons.1 hk with rfl | hk
          · exact .inl (by omega)
          · exact .inr hk) (fun y hy => ⟨Nat.lt_of_lt_of_le (hTT y hy).1 G.size, fun hm => by
            rcases List.mem_cons.1 hm with rfl | hm
            · exact (hTT _ hy).2.2 rfl
            · have := HOW.out y hm; have := (hTT y hy).1; omega⟩)
        have n4 : ∀ {W' : World}, Fr ((w.heap.size + 1 + 1) :: (Value.slice Av fs.length cv).ownBlock.toList) Wc W' → w.heap.size + 1 ∉ ((w.heap.size + 1 + 1) :: (Value.slice Av fs.length cv).ownBlock.toList) := fun _ hm => by
          rcases List.mem_cons.1 hm with h | hm
          · omega
          · have := HOW.out _ hm; omega
        have n3 : ∀ {W' : World}, Fr ((w.heap.size + 1 + 1) :: (Value.slice Av fs.length cv).ownBlock.toList) Wc W' → w.heap.size ∉ ((w.heap.size + 1 + 1) :: (Value.slice Av fs.length cv).ownBlock.toList) := fun _ hm => by
          rcases List.mem_cons.1 hm with h | hm
          · omega
          · have := HOW.out _ hm; omega
        have ms : ∀ v' : Value, (v'.ownBlock = (Value.slice Av fs.length cv).ownBlock ∨ ∃ g, v'.ownBlock = some g ∧ Wc.heap.size ≤ g) → ∀ k ∈ v'.ownBlock.toList, k ∈ (Value.slice Av fs.length cv).ownBlock.toList ∨ Wc.heap.size ≤ k := fun v' h k hk => by
          rcases h with h | ⟨g, h, hg⟩
          · left; rw [← h]; exact hk
          · right; rw [h] at hk; simp at hk; omega
        have mg : ∀ v' : Value, (v'.ownBlock = (Value.slice Av fs.length cv).ownBlock ∨ ∃ g, v'.ownBlock = some g ∧ Wc.heap.size ≤ g) → ∀ g, v'.ownBlock = some g → w3.heap.size ≤ g := fun v' h k hk => by
          rcases h with h | ⟨g, h, hg⟩
          · exact HG.out k (h ▸ hk)
          · have := G.size; rw [h] at hk; injection hk with hk; omega
        have mr := HOW.out
        clear hxg hle1 own3
        cases bb
        · have HSTEP : Hid (∀ rest, mkL t (x :: rest) fs left = (fs, left, 2)) := Lib.hid fun rest => by
            have h2 : ¬ (t.lo ≤ x.pr ∧ x.pr ≤ t.hi) := fun h => by have := HBB.out; simp [h.1, h.2] at this
            simp [mkL, HN.out, HW.out, h2]
          gi_wp2
          refine ⟨keeps_fr (S := [w.heap.size + 1 + 1, w.heap.size + 1]) ?_ (by simp; omega), [], fs, left, 2, _, _, _, _, ⟨fun rest => by rw [HCo.out]; exact HSTEP.out rest, HG.out, .inl ⟨rfl, rfl, rfl, rfl⟩⟩, ?_, ?_, ?_, ?_⟩
          · exact (((Fr.refl _ _).setIn (by simp)).setIn (by simp)).setIn (by simp) |>.setIn (by simp)
          · exact ((((G.mono (by simp)).setIn (by simp)).setIn (by simp)).setIn (by simp)).setIn (by simp)
          · exact ((((G5.same 2 _).off (by omega)).off (by omega)).off (by omega)).cast rfl
          · exact ((((G4.off (by omega)).same 0 _).same 1 _).same 2 _).cast rfl
          · refine GR.fr (S := [w.heap.size + 1 + 1, w.heap.size + 1]) ((((((Fr.refl _ _).setIn (by simp)).setIn (by simp)).setIn (by simp)).setIn (by simp))) (fun g hg hm => ?_)
            have := HG.out g hg
            simp at hm; omega
        · have hband : t.lo ≤ x.pr ∧ x.pr ≤ t.hi := by have := HBB.out; simpa using this
          have HBa := Lib.hid hband
          clear hband
          have c8 := G8.cell
          by_cases c1 : t.sf = 0 ∨ x.ow ≠ t.ow
          · have HC1 := Lib.hid c1
            have hg0 : (t.sf == 0 || x.ow != t.ow) = true := by simpa using c1
            clear c1
            by_cases hmin : left ≤ x.qt
            · have HSTEP : Hid (∀ rest, mkL t (x :: rest) fs left = mkL t rest (fs ++ [⟨x.id, x.pr, left, false⟩]) 0) := Lib.hid fun rest => by
                have e1 : min left x.qt = left := by omega
                rw [mkL, if_neg HN.out, if_neg (by rw [HW.out]; decide), if_neg (fun h => h HBa.out), if_pos HC1.out, e1, Int.sub_self]
              have a3 : IntKind.i64.wrap (left - left) = 0 := by rw [Int.sub_self]; rfl
              gi_wp2
              all_goals
                refine (CallsIn.inRound l (callsIn_wide.2 (planPut Wc (w.heap.size + 1 + 1) _ left 1 fs G5 GR HLE.out x left false))).mono ?_
                rintro e w4 ⟨rfl, v', F4, hv', P4, R4⟩
                have HV' : Hid (v'.ownBlock = (Value.slice Av fs.length cv).ownBlock ∨ ∃ g, v'.ownBlock = some g ∧ Wc.heap.size ≤ g) := Lib.hid hv'
                have d5 := P4.cell
                have e5 := P4.frozen
                have m5 := P4.lt
                have K4 := Blk.via F4 (n4 F4) G4
                have d4 := K4.cell
                have K3 := Blk.via F4 (n3 F4) G3
                have d3 := K3.cell
                have e4 := K4.frozen
                have m4 := K4.lt
                obtain ⟨A', c', hv3, _⟩ := R4.form
                simp only [List.length_append, List.length_cons, List.length_nil, Nat.zero_add] at hv3
                subst hv3
                clear c5 f5 l5 c4 f4 l4 c3 hv'

                gi_wp2
                have F5 : Fr ((w.heap.size + 1 + 1) :: (Value.slice Av fs.length cv).ownBlock.toList) Wc (w4.setCell ⟨w.heap.size + 1 + 1, 1, none⟩ (.int .i64 0)) := F4.setIn List.mem_cons_self
                exact ⟨kf F5, km F5, _, ms _ HV'.out, fs ++ [⟨x.id, x.pr, left, false⟩], 0, _, ⟨rfl, fun rest => by rw [HCo.out]; exact HSTEP.out rest, (by have := HL.out; omega), by have := HLen.out; simp; omega, mg _ HV'.out⟩, fr_grow (S := [w.heap.size + 1 + 1]) G F5 mr, (P4.same 1 _).cast rfl, R4.fr (S := [w.heap.size + 1 + 1]) (Fr.setIn List.mem_cons_self (Fr.refl _ _)) (fun g hg hm => (by obtain ⟨cs, B⟩ := R4.blk hg; exact B.ne P4 (by decide) (List.mem_singleton.1 hm)))⟩

            · have hmin2 : x.qt < left := by omega
              have HSTEP : Hid (∀ rest, mkL t (x :: rest) fs left = mkL t rest (fs ++ [⟨x.id, x.pr, x.qt, false⟩]) (left - x.qt)) := Lib.hid fun rest => by
                have e1 : min left x.qt = x.qt := by omega
                rw [mkL, if_neg HN.out, if_neg (by rw [HW.out]; decide), if_neg (fun h => h HBa.out), if_pos HC1.out, e1]
              have hrange : -9223372036854775808 ≤ left - x.qt ∧ left - x.qt ≤ 9223372036854775807 := by have := HL.out; have := HQ.out; have := HX.out; omega
              gi_wp2
              all_goals
                refine (CallsIn.inRound l (callsIn_wide.2 (planPut Wc (w.heap.size + 1 + 1) _ left 1 fs G5 GR HLE.out x x.qt false))).mono ?_
                rintro e w4 ⟨rfl, v', F4, hv', P4, R4⟩
                have HV' : Hid (v'.ownBlock = (Value.slice Av fs.length cv).ownBlock ∨ ∃ g, v'.ownBlock = some g ∧ Wc.heap.size ≤ g) := Lib.hid hv'
                have d5 := P4.cell
                have e5 := P4.frozen
                have m5 := P4.lt
                have K4 := Blk.via F4 (n4 F4) G4
                have d4 := K4.cell
                have K3 := Blk.via F4 (n3 F4) G3
                have d3 := K3.cell
                have e4 := K4.frozen
                have m4 := K4.lt
                obtain ⟨A', c', hv3, _⟩ := R4.form
                simp only [List.length_append, List.length_cons, List.length_nil, Nat.zero_add] at hv3
                subst hv3
                clear c5 f5 l5 c4 f4 l4 c3 hv'

                gi_wp2
                have F5 : Fr ((w.heap.size + 1 + 1) :: (Value.slice Av fs.length cv).ownBlock.toList) Wc (w4.setCell ⟨w.heap.size + 1 + 1, 1, none⟩ (.int .i64 (left - x.qt))) := F4.setIn List.mem_cons_self
                exact ⟨kf F5, km F5, _, ms _ HV'.out, fs ++ [⟨x.id, x.pr, x.qt, false⟩], left - x.qt, _, ⟨rfl, fun rest => by rw [HCo.out]; exact HSTEP.out rest, (by have := HL.out; have := HX.out; omega), by have := HLen.out; simp; omega, mg _ HV'.out⟩, fr_grow (S := [w.heap.size + 1 + 1]) G F5 mr, (P4.same 1 _).cast rfl, R4.fr (S := [w.heap.size + 1 + 1]) (Fr.setIn List.mem_cons_self (Fr.refl _ _)) (fun g hg hm => (by obtain ⟨cs, B⟩ := R4.blk hg; exact B.ne P4 (by decide) (List.mem_singleton.1 hm)))⟩

          · have HC1 := Lib.hid c1
            have hd0 : (t.sf == 0) = false := by simpa using fun e : t.sf = 0 => c1 (.inl e)
            have hd1 : (x.ow != t.ow) = false := by
              have : x.ow = t.ow := Classical.byContradiction fun e => c1 (.inr e)
              simp [this]
            clear c1
            by_cases c2 : t.sf = 1
            · have HSTEP : Hid (∀ rest, mkL t (x :: rest) fs left = (fs, left, 3)) := Lib.hid fun rest => by
                rw [mkL, if_neg HN.out, if_neg (by rw [HW.out]; decide), if_neg (fun h => h HBa.out), if_neg HC1.out, if_pos c2]
              have g1 : (t.sf != 1) = false := by simp [c2]
              have g2 : (t.sf == 1) = true := by simp [c2]
              clear c2
              gi_wp2
              refine ⟨keeps_fr (S := [w.heap.size + 1 + 1, w.heap.size + 1]) ?_ (by simp; omega), [], fs, left, 3, _, _, _, _, ⟨fun rest => by rw [HCo.out]; exact HSTEP.out rest, HG.out, .inl ⟨rfl, rfl, rfl, rfl⟩⟩, ?_, ?_, ?_, ?_⟩
              · exact (((Fr.refl _ _).setIn (by simp)).setIn (by simp)).setIn (by simp) |>.setIn (by simp)
              · exact ((((G.mono (by simp)).setIn (by simp)).setIn (by simp)).setIn (by simp)).setIn (by simp)
              · exact ((((G5.same 2 _).off (by omega)).off (by omega)).off (by omega)).cast rfl
              · exact ((((G4.off (by omega)).same 0 _).same 1 _).same 2 _).cast rfl
              · refine GR.fr (S := [w.heap.size + 1 + 1, w.heap.size + 1]) ((((((Fr.refl _ _).setIn (by simp)).setIn (by simp)).setIn (by simp)).setIn (by simp))) (fun g hg hm => ?_)
                have := HG.out g hg
                simp at hm; omega
            · have g1 : (t.sf != 1) = true := by simp [c2]
              have g2 : (t.sf == 1) = false := by simp [c2]
              have HC2 := Lib.hid c2
              clear c2
              by_cases c3' : t.sf = 3
              · have HSTEP : Hid (∀ rest, mkL t (x :: rest) fs left = (fs ++ [⟨x.id, x.pr, x.qt, true⟩], left, 3)) := Lib.hid fun rest => by
                  rw [mkL, if_neg HN.out, if_neg (by rw [HW.out]; decide), if_neg (fun h => h HBa.out), if_neg HC1.out, if_neg HC2.out, if_pos c3']
                have g3 : (t.sf == 3) = true := by simp [c3']
                clear c3'
                gi_wp2
                refine (CallsIn.inRound l (callsIn_wide.2 (planPut Wc (w.heap.size + 1 + 1) _ left 1 fs G5 GR HLE.out x x.qt true))).mono ?_
                rintro e w4 ⟨rfl, v', F4, hv', P4, R4⟩
                have HV' : Hid (v'.ownBlock = (Value.slice Av fs.length cv).ownBlock ∨ ∃ g, v'.ownBlock = some g ∧ Wc.heap.size ≤ g) := Lib.hid hv'
                have d5 := P4.cell
                have e5 := P4.frozen
                have m5 := P4.lt
                have K4 := Blk.via F4 (n4 F4) G4
                have d4 := K4.cell
                have K3 := Blk.via F4 (n3 F4) G3
                have d3 := K3.cell
                have e4 := K4.frozen
                have m4 := K4.lt
                obtain ⟨A', c', hv3, _⟩ := R4.form
                simp only [List.length_append, List.length_cons, List.length_nil, Nat.zero_add] at hv3
                subst hv3
                clear c5 f5 l5 c4 f4 l4 c3 hv'

                gi_wp2
                have F5 : Fr ((w.heap.size + 1 + 1) :: (Value.slice Av fs.length cv).ownBlock.toList) Wc (w4.setCell ⟨w.heap.size + 1 + 1, 2, none⟩ (.int .i64 3)) := F4.setIn List.mem_cons_self
                have FS : Fr [w.heap.size + 1] (w4.setCell ⟨w.heap.size + 1 + 1, 2, none⟩ (.int .i64 3)) ((((w4.setCell ⟨w.heap.size + 1 + 1, 2, none⟩ (.int .i64 3)).setCell ⟨w.heap.size + 1, 0, none⟩ (.slice A' (fs.length + 1) c')).setCell ⟨w.heap.size + 1, 1, none⟩ (.int .i64 left)).setCell ⟨w.heap.size + 1, 2, none⟩ (.int .i64 3)) := (((Fr.refl _ _).setIn (by simp)).setIn (by simp)).setIn (by simp)
                refine ⟨(kf F5).trans (keeps_fr FS (by simp; omega)), [], fs ++ [⟨x.id, x.pr, x.qt, true⟩], left, 3, _, _, _, _, ⟨fun rest => by rw [HCo.out]; exact HSTEP.out rest, mg _ HV'.out, .inl ⟨rfl, rfl, rfl, rfl⟩⟩, ?_, ?_, ?_, ?_⟩
                · exact ((fr_grow (S := [w.heap.size + 1 + 1]) G F5 mr).mono (by simp)).trans (FS.mono (by simp))
                · exact ((((P4.same 2 _).off (by omega)).off (by omega)).off (by omega)).cast rfl
                · exact ((((K4.off (by omega)).same 0 _).same 1 _).same 2 _).cast rfl
                · refine (R4.fr (S := [w.heap.size + 1 + 1]) (Fr.setIn List.mem_cons_self (Fr.refl _ _)) (fun g hg hm => (by obtain ⟨cs, B⟩ := R4.blk hg; exact B.ne P4 (by decide) (List.mem_singleton.1 hm)))).fr FS (fun g hg hm => ?_)
                  have := mg _ HV'.out g hg
                  simp at hm; omega
              · have HSTEP : Hid (∀ rest, mkL t (x :: rest) fs left = mkL t rest (fs ++ [⟨x.id, x.pr, x.qt, true⟩]) left) := Lib.hid fun rest => by
                  rw [mkL, if_neg HN.out, if_neg (by rw [HW.out]; decide), if_neg (fun h => h HBa.out), if_neg HC1.out, if_neg HC2.out, if_neg c3']
                have g3 : (t.sf == 3) = false := by simp [c3']
                clear c3'
                gi_wp2
                refine (CallsIn.inRound l (callsIn_wide.2 (planPut Wc (w.heap.size + 1 + 1) _ left 1 fs G5 GR HLE.out x x.qt true))).mono ?_
                rintro e w4 ⟨rfl, v', F4, hv', P4, R4⟩
                have HV' : Hid (v'.ownBlock = (Value.slice Av fs.length cv).ownBlock ∨ ∃ g, v'.ownBlock = some g ∧ Wc.heap.size ≤ g) := Lib.hid hv'
                have d5 := P4.cell
                have e5 := P4.frozen
                have m5 := P4.lt
                have K4 := Blk.via F4 (n4 F4) G4
                have d4 := K4.cell
                have K3 := Blk.via F4 (n3 F4) G3
                have d3 := K3.cell
                have e4 := K4.frozen
                have m4 := K4.lt
                obtain ⟨A', c', hv3, _⟩ := R4.form
                simp only [List.length_append, List.length_cons, List.length_nil, Nat.zero_add] at hv3
                subst hv3
                clear c5 f5 l5 c4 f4 l4 c3 hv'

                gi_wp2
                have F5 : Fr ((w.heap.size + 1 + 1) :: (Value.slice Av fs.length cv).ownBlock.toList) Wc (w4) := F4
                exact ⟨kf F5, km F5, _, ms _ HV'.out, fs ++ [⟨x.id, x.pr, x.qt, true⟩], left, _, ⟨rfl, fun rest => by rw [HCo.out]; exact HSTEP.out rest, HL.out, by have := HLen.out; simp; omega, mg _ HV'.out⟩, fr_grow (S := [w.heap.size + 1 + 1]) G F5 mr, P4, R4⟩

      · gi_wp2
        refine ⟨keeps_fr (S := [w.heap.size + 1]) ?_ (by simp; omega), [], fs, left, 1, _, _, _, _, ⟨fun rest => by rw [HCo.out]; simp [mkL, HN.out, HW.out], HG.out, .inl ⟨rfl, rfl, rfl, rfl⟩⟩, ?_, ?_, ((G4.same 0 _).same 1 _).same 2 _ |>.cast rfl, ?_⟩
        · exact (((Fr.refl _ _).setIn (by simp)).setIn (by simp)).setIn (by simp)
        · exact (((G.mono (by simp)).setIn (by simp)).setIn (by simp)).setIn (by simp)
        · exact (((G5.off (by omega)).off (by omega)).off (by omega)).cast rfl
        · refine GR.fr (S := [w.heap.size + 1]) (((((Fr.refl _ _).setIn (by simp)).setIn (by simp)).setIn (by simp))) (fun g hg hm => ?_)
          have := HG.out g hg
          simp at hm; omega
end Go.Proofs.Ytkimldeagndgjaa

/- Plans are applied, and what they trade, walked. -/
namespace Go.Proofs.Ytkimldeagndgjaa
set_option linter.unusedVariables false
set_option linter.unusedSimpArgs false
open Go.RowKit

/-- What one fill makes of a book's orders, and the fault. -/
def apF (L : List Ord) (f : Fil) : Int × List Ord :=
  match L.find? (fun x => decide (x.id = f.id)) with
  | none => (5, L)
  | some x => if f.gn then (0, rmv f.id L) else if f.qt < 1 ∨ x.qt < f.qt then (9, L) else if f.qt = x.qt then (0, rmv f.id L) else (0, red f.id f.qt L)
def apL : List Fil → List Ord → Int × List Ord
  | [], L => (0, L)
  | f :: r, L => if (apF L f).1 = 0 then apL r (apF L f).2 else ((apF L f).1, L)
theorem find_none {L : List Ord} {id : Int} (h : L.find? (fun x => decide (x.id = id)) = none) : ∀ x ∈ L, x.id ≠ id := fun x hx e => by
  have := List.find?_eq_none.1 h x hx
  simp [e] at this
theorem find_some {L : List Ord} {id : Int} {x : Ord} (h : L.find? (fun x => decide (x.id = id)) = some x) : x ∈ L ∧ x.id = id := ⟨List.mem_of_find?_eq_some h, by have := List.find?_some h; simpa using this⟩
theorem apF_err {L : List Ord} {f : Fil} (h : (apF L f).1 ≠ 0) : (apF L f).2 = L := by
  unfold apF at h ⊢
  split <;> rename_i hh
  · rfl
  · rw [hh] at h
    simp only at h
    split at h
    · exact absurd rfl h
    · split at h
      · rename_i h1 h2; rw [if_neg h1, if_pos h2]
      · split at h <;> exact absurd rfl h

theorem bookRemove_any (w : World) (b : Nat) (D : List Nat) (N K : Nat) (L : List Ord) (h : BookI w b D N K L) (f : Fil) (hg : f.gn = true) :
    Calls Try.prog 26 #[.pointer (some ⟨b, 0, none⟩), .int .i64 f.id] w fun e w' => (∃ o : Ord, e = .returned (.tuple #[.agg o.a, .int .i64 (apF L f).1])) ∧ Fr D w w' ∧ BookI w' b D N K (apF L f).2 := by
  unfold apF
  cases hf : L.find? (fun x => decide (x.id = f.id)) with
  | none => exact (bookRemove_no w b D N K L h f.id (find_none hf)).mono fun e w' ⟨h1, h2⟩ => ⟨⟨_, h1⟩, h2.mono (by simp), h.fr h2 (by simp)⟩
  | some x =>
    obtain ⟨h1, h2⟩ := find_some hf
    rw [hg]
    simp only [if_true]
    rw [← h2]
    exact (bookRemove_has w b D N K L h x h1).mono fun e w' ⟨h1, h2, h3⟩ => ⟨⟨_, h1⟩, h2, h3⟩
theorem bookReduce_any (w : World) (b : Nat) (D : List Nat) (N K : Nat) (L : List Ord) (h : BookI w b D N K L) (f : Fil) (hg : f.gn = false) :
    Calls Try.prog 42 #[.pointer (some ⟨b, 0, none⟩), .int .i64 f.id, .int .i64 f.qt] w fun e w' => (∃ o : Ord, e = .returned (.tuple #[.agg o.a, .int .i64 (apF L f).1])) ∧ Fr D w w' ∧ BookI w' b D N K (apF L f).2 := by
  unfold apF
  cases hf : L.find? (fun x => decide (x.id = f.id)) with
  | none => exact (bookReduce_no w b D N K L h f.id f.qt (find_none hf)).mono fun e w' ⟨h1, h2⟩ => ⟨⟨_, h1⟩, h2.mono (by simp), h.fr h2 (by simp)⟩
  | some x =>
    obtain ⟨h1, h2⟩ := find_some hf
    rw [hg]
    simp only [Bool.false_eq_true, if_false]
    rw [← h2]
    by_cases c : f.qt < 1 ∨ x.qt < f.qt
    · rw [if_pos c]
      exact (bookReduce_range w b D N K L h x h1 f.qt c).mono fun e w' ⟨h1, h2⟩ => ⟨⟨_, h1⟩, h2.mono (by simp), h.fr h2 (by simp)⟩
    · rw [if_neg c]
      by_cases c2 : f.qt = x.qt
      · rw [if_pos c2, c2]
        exact (bookReduce_all w b D N K L h x h1).mono fun e w' ⟨h1, h2, h3⟩ => ⟨⟨_, h1⟩, h2, h3⟩
      · rw [if_neg c2]
        exact (bookReduce_less w b D N K L h x h1 f.qt ⟨by omega, by omega⟩).mono fun e w' ⟨h1, h2, h3⟩ => ⟨⟨_, h1⟩, h2, h3⟩

set_option maxHeartbeats 2000000 in
theorem apply_any (w : World) (b : Nat) (D : List Nat) (N K : Nat) (L : List Ord) (h : BookI w b D N K L) (v : Value) (left stop : Int) (fs : List Fil) (hR : RowF w v fs) (hv : ∀ g, v.ownBlock = some g → g ∉ D) (hl : fs.length ≤ 10000) :
    Calls Try.prog 41 #[.pointer (some ⟨b, 0, none⟩), .agg #[v, .int .i64 left, .int .i64 stop]] w fun e w' => e = .returned (.int .i64 (apL fs L).1) ∧ Fr D w w' ∧ BookI w' b D N K (apL fs L).2 := by
  obtain ⟨A, c, rfl, hc⟩ := hR.form
  have HR := Lib.hid hR
  have HB := Lib.hid h
  have HV := Lib.hid hv
  have HDl := Lib.hid h.lts'
  have hmf : ∀ (fn : Fn) (first cap : Array Value) (w : World), (Instr.makeFunc fn first cap).run Try.prog w = .ok (.func fn first cap) w := fun _ _ _ _ => rfl
  clear hR h hv hc
  go_enter Try.func41, Try.ntmps41
  go_wp2_with fail
  refine wp_name (fun W0 hW => ?_)
  have F0 : Fr [] w W0 := Fr.eqv hW (by with_reducible repeat (first | exact Fr.refl _ _ | assumption | apply Fr.drew | apply Fr.drewN | apply Fr.alloc | (apply Fr.step; assumption; (intro _ h; (first | exact h | (focus (simp_all; done))))) | (apply Fr.setIn; (first | exact List.mem_cons_self | exact List.mem_cons_of_mem _ List.mem_cons_self | exact List.mem_cons_of_mem _ (List.mem_cons_of_mem _ List.mem_cons_self) | exact List.mem_cons_of_mem _ (List.mem_cons_of_mem _ (List.mem_cons_of_mem _ List.mem_cons_self)))) | (apply Fr.setNew; (first | omega | (simp; omega)))))
  clear hW
  go_loopw [4, 16] (fun s4 s16 wr => ∃ (i : Nat) (L' : List Ord), i ≤ fs.length ∧ s4 = .int .i64 0 ∧ s16 = .int .i64 i ∧ Fr D w wr ∧ BookI wr b D N K L' ∧ apL fs L = apL (fs.drop i) L') (fun _ s16 _ => fs.length - (intOf s16).toNat)
  case atStart => exact ⟨0, L, by omega, rfl, rfl, F0.mono (by simp), HB.out.fr F0 (by simp), rfl⟩
  case round =>
    obtain ⟨i, L', hi, rfl, rfl, F1, hB1, hap⟩ := hrel
    have HAP := Lib.hid hap
    have HB1 := Lib.hid hB1
    clear F0 hap hB1
    by_cases hlt : i < fs.length
    · have i0 : (0 : Int) ≤ (i : Int) := by omega
      have i1 : (i : Int) < (fs.length : Int) := by omega
      obtain ⟨f, hf⟩ : ∃ f, fs[i]? = some f := ⟨_, List.getElem?_eq_getElem hlt⟩
      have R1 := HR.out.fr F1 HV.out
      obtain ⟨g, c', e, _, hg, hcell⟩ := R1.at encF_ok.len (by omega)
      injection e with e1 _ e2
      subst e1; subst e2
      have q0 : wr.cell? ⟨g, i * 4, none⟩ = some (.int .i64 f.id) := by simpa using hcell i f hf 0 _ rfl
      have q1 := hcell i f hf 1 _ rfl
      have q2 := hcell i f hf 2 _ rfl
      have q3 := hcell i f hf 3 _ rfl
      have hdrop : fs.drop i = f :: fs.drop (i + 1) := by rw [List.drop_eq_getElem_cons hlt]; congr 1; rw [List.getElem?_eq_getElem hlt] at hf; exact Option.some.inj hf
      have HD := Lib.hid hdrop
      clear hcell R1 hdrop
      have hbx : ∀ W, Fr [] wr W → BookI W b D N K L' := fun W hf => HB1.out.fr hf (by simp)
      have HBX := Lib.hid hbx
      clear hbx
      by_cases hgn : f.gn = true
      · have HC := Lib.hid (fun W hf => bookRemove_any W b D N K L' (HBX.out W hf) f hgn)
        go_wp2_with fail
        refine calls_named (fun W2 hW => ?_)
        have F2 : Fr [] wr W2 := Fr.eqv hW (by with_reducible repeat (first | exact Fr.refl _ _ | assumption | apply Fr.drew | apply Fr.drewN | apply Fr.alloc | (apply Fr.step; assumption; (intro _ h; (first | exact h | (focus (simp_all; done))))) | (apply Fr.setIn; (first | exact List.mem_cons_self | exact List.mem_cons_of_mem _ List.mem_cons_self | exact List.mem_cons_of_mem _ (List.mem_cons_of_mem _ List.mem_cons_self) | exact List.mem_cons_of_mem _ (List.mem_cons_of_mem _ (List.mem_cons_of_mem _ List.mem_cons_self)))) | (apply Fr.setNew; (first | omega | (simp; omega)))))
        clear hW
        refine (HC.out W2 F2).mono ?_
        rintro e w3 ⟨⟨o, rfl⟩, F3, B3⟩
        have HF3 := Lib.hid ((F2.mono (by simp)).trans F3)
        have HB3 := Lib.hid B3
        clear q0 q1 q2 q3 F3 B3
        by_cases hz : (apF L' f).1 = 0
        · have HZ := Lib.hid hz
          rw [hz]
          clear hz
          go_wp2_with fail
          go_roundw
          case rel => exact ⟨i + 1, (apF L' f).2, by omega, rfl, by simp, F1.trans HF3.out, HB3.out, by rw [HAP.out, HD.out, apL, if_pos HZ.out]⟩
          case measure => simp [intOf]; omega
        · have hz' : ((apF L' f).1 != 0) = true := by simpa using hz
          have HZ := Lib.hid hz
          clear hz
          go_wp2_with fail
          go_ret
          refine ⟨by rw [HAP.out, HD.out, apL, if_neg HZ.out]; rfl, F1.trans HF3.out, ?_⟩
          have := HB3.out
          rw [apF_err HZ.out] at this
          rw [HAP.out, HD.out, apL, if_neg HZ.out]; exact this
      · have hgn' : f.gn = false := by simpa using hgn
        have HC := Lib.hid (fun W hf => bookReduce_any W b D N K L' (HBX.out W hf) f hgn')
        go_wp2_with fail
        refine calls_named (fun W2 hW => ?_)
        have F2 : Fr [] wr W2 := Fr.eqv hW (by with_reducible repeat (first | exact Fr.refl _ _ | assumption | apply Fr.drew | apply Fr.drewN | apply Fr.alloc | (apply Fr.step; assumption; (intro _ h; (first | exact h | (focus (simp_all; done))))) | (apply Fr.setIn; (first | exact List.mem_cons_self | exact List.mem_cons_of_mem _ List.mem_cons_self | exact List.mem_cons_of_mem _ (List.mem_cons_of_mem _ List.mem_cons_self) | exact List.mem_cons_of_mem _ (List.mem_cons_of_mem _ (List.mem_cons_of_mem _ List.mem_cons_self)))) | (apply Fr.setNew; (first | omega | (simp; omega)))))
        clear hW
        refine (HC.out W2 F2).mono ?_
        rintro e w3 ⟨⟨o, rfl⟩, F3, B3⟩
        have HF3 := Lib.hid ((F2.mono (by simp)).trans F3)
        have HB3 := Lib.hid B3
        clear q0 q1 q2 q3 F3 B3
        by_cases hz : (apF L' f).1 = 0
        · have HZ := Lib.hid hz
          rw [hz]
          clear hz
          go_wp2_with fail
          go_roundw
          case rel => exact ⟨i + 1, (apF L' f).2, by omega, rfl, by simp, F1.trans HF3.out, HB3.out, by rw [HAP.out, HD.out, apL, if_pos HZ.out]⟩
          case measure => simp [intOf]; omega
        · have hz' : ((apF L' f).1 != 0) = true := by simpa using hz
          have HZ := Lib.hid hz
          clear hz
          go_wp2_with fail
          go_ret
          refine ⟨by rw [HAP.out, HD.out, apL, if_neg HZ.out]; rfl, F1.trans HF3.out, ?_⟩
          have := HB3.out
          rw [apF_err HZ.out] at this
          rw [HAP.out, HD.out, apL, if_neg HZ.out]; exact this
    · obtain rfl : i = fs.length := by omega
      go_wp2_with fail
      go_ret
      have h1 := HAP.out
      rw [List.drop_length] at h1
      exact ⟨by rw [h1]; rfl, F1, by rw [h1]; exact HB1.out⟩

/-- What a plan trades. -/
def trS (fs : List Fil) : Int := ((fs.filter (fun f => !f.gn)).map (·.qt)).sum
theorem trS_snoc (l : List Fil) (f : Fil) : trS (l ++ [f]) = if f.gn then trS l else trS l + f.qt := by
  unfold trS
  rw [List.filter_append]
  cases h : f.gn <;> simp [h]
theorem trS_bound {l : List Fil} (hq : ∀ f ∈ l, 0 ≤ f.qt ∧ f.qt ≤ 4294967296) : 0 ≤ trS l ∧ trS l ≤ l.length * 4294967296 := by
  induction l with
  | nil => simp [trS]
  | cons a r ih =>
    have h1 := hq a (by simp)
    have h2 := ih fun f hf => hq f (by simp [hf])
    have e : trS (a :: r) = if a.gn then trS r else a.qt + trS r := by
      unfold trS
      cases h : a.gn <;> simp [h]
    have e2 : (((a :: r).length : Nat) : Int) * 4294967296 = r.length * 4294967296 + 4294967296 := by simp only [List.length_cons]; omega
    rw [e, e2]
    split <;> omega
set_option maxHeartbeats 2000000 in
theorem traded_any (w : World) (v : Value) (left stop : Int) (fs : List Fil) (hR : RowF w v fs) (hq : ∀ f ∈ fs, 0 ≤ f.qt ∧ f.qt ≤ 4294967296) (hl : fs.length ≤ 10000) :
    Calls Try.prog 40 #[.agg #[v, .int .i64 left, .int .i64 stop]] w fun e w' => e = .returned (.int .i64 (trS fs)) ∧ Fr [] w w' := by
  obtain ⟨A, c, rfl, hc⟩ := hR.form
  have HR := Lib.hid hR
  have HQ := Lib.hid hq
  clear hR hc hq
  go_enter Try.func40, Try.ntmps40
  go_wp2_with fail
  refine wp_name (fun W0 hW => ?_)
  have F0 : Fr [] w W0 := Fr.eqv hW (by with_reducible repeat (first | exact Fr.refl _ _ | assumption | apply Fr.drew | apply Fr.drewN | apply Fr.alloc | (apply Fr.step; assumption; (intro _ h; (first | exact h | (focus (simp_all; done))))) | (apply Fr.setIn; (first | exact List.mem_cons_self | exact List.mem_cons_of_mem _ List.mem_cons_self | exact List.mem_cons_of_mem _ (List.mem_cons_of_mem _ List.mem_cons_self) | exact List.mem_cons_of_mem _ (List.mem_cons_of_mem _ (List.mem_cons_of_mem _ List.mem_cons_self)))) | (apply Fr.setNew; (first | omega | (simp; omega)))))
  clear hW
  go_loopw [2, 10] (fun s2 s10 wr => ∃ (i : Nat), i ≤ fs.length ∧ s2 = .int .i64 (trS (fs.take i)) ∧ s10 = .int .i64 i ∧ Fr [] w wr) (fun _ s10 _ => fs.length - (intOf s10).toNat)
  case atStart => exact ⟨0, by omega, by simp [trS], rfl, F0⟩
  case round =>
    obtain ⟨i, hi, rfl, rfl, F1⟩ := hrel
    clear F0
    by_cases hlt : i < fs.length
    · have i0 : (0 : Int) ≤ (i : Int) := by omega
      have i1 : (i : Int) < (fs.length : Int) := by omega
      obtain ⟨f, hf⟩ : ∃ f, fs[i]? = some f := ⟨_, List.getElem?_eq_getElem hlt⟩
      have R1 := HR.out.fr F1 (by simp)
      obtain ⟨g, c', e, _, hg, hcell⟩ := R1.at encF_ok.len (by omega)
      injection e with e1 _ e2
      subst e1; subst e2
      have q0 : wr.cell? ⟨g, i * 4, none⟩ = some (.int .i64 f.id) := by simpa using hcell i f hf 0 _ rfl
      have q1 := hcell i f hf 1 _ rfl
      have q2 := hcell i f hf 2 _ rfl
      have q3 := hcell i f hf 3 _ rfl
      have htake : fs.take (i + 1) = fs.take i ++ [f] := by
        rw [List.take_add_one, hf]; rfl
      have hb := trS_bound (l := fs.take i) (fun f hf => HQ.out f (List.mem_of_mem_take hf))
      have hlen : (fs.take i).length = i := by rw [List.length_take]; omega
      rw [hlen] at hb
      have hfq := HQ.out f (List.mem_of_getElem? hf)
      have HT := Lib.hid htake
      clear hcell R1 htake hlen
      cases hgn : f.gn
      · rw [hgn] at q3
        have hsn : trS (fs.take (i + 1)) = trS (fs.take i) + f.qt := by rw [HT.out, trS_snoc, hgn]; simp
        have HS := Lib.hid hsn
        have HA := Lib.hid (fun W => add_in W (trS (fs.take i)) f.qt (by unfold In64; omega) (by unfold In64; omega) (by unfold In64; omega))
        clear hsn hgn hb hfq
        go_wp2_with fail
        refine calls_named (fun W2 hW => ?_)
        have F2 : Fr [] wr W2 := Fr.eqv hW (by with_reducible repeat (first | exact Fr.refl _ _ | assumption | apply Fr.drew | apply Fr.drewN | apply Fr.alloc | (apply Fr.step; assumption; (intro _ h; (first | exact h | (focus (simp_all; done))))) | (apply Fr.setIn; (first | exact List.mem_cons_self | exact List.mem_cons_of_mem _ List.mem_cons_self | exact List.mem_cons_of_mem _ (List.mem_cons_of_mem _ List.mem_cons_self) | exact List.mem_cons_of_mem _ (List.mem_cons_of_mem _ (List.mem_cons_of_mem _ List.mem_cons_self)))) | (apply Fr.setNew; (first | omega | (simp; omega)))))
        clear hW
        refine (HA.out W2).mono ?_
        rintro e w3 ⟨rfl, rfl⟩
        clear q0 q1 q2 q3
        go_wp2_with fail
        go_roundw
        case rel => exact ⟨i + 1, by omega, by rw [HS.out], by simp, F1.trans F2⟩
        case measure => simp [intOf]; omega
      · rw [hgn] at q3
        have hsn : trS (fs.take (i + 1)) = trS (fs.take i) := by rw [HT.out, trS_snoc, hgn]; simp
        have HS := Lib.hid hsn
        clear hsn hgn
        go_wp2_with fail
        go_roundw
        case rel => exact ⟨i + 1, by omega, by rw [HS.out], by simp, F1.trans (by with_reducible repeat (first | exact Fr.refl _ _ | assumption | apply Fr.drew | apply Fr.drewN | apply Fr.alloc | (apply Fr.step; assumption; (intro _ h; (first | exact h | (focus (simp_all; done))))) | (apply Fr.setIn; (first | exact List.mem_cons_self | exact List.mem_cons_of_mem _ List.mem_cons_self | exact List.mem_cons_of_mem _ (List.mem_cons_of_mem _ List.mem_cons_self) | exact List.mem_cons_of_mem _ (List.mem_cons_of_mem _ (List.mem_cons_of_mem _ List.mem_cons_self)))) | (apply Fr.setNew; (first | omega | (simp; omega)))))⟩
        case measure => simp [intOf]; omega
    · obtain rfl : i = fs.length := by omega
      go_wp2_with fail
      go_ret
      exact ⟨by simp, F1⟩
end Go.Proofs.Ytkimldeagndgjaa
