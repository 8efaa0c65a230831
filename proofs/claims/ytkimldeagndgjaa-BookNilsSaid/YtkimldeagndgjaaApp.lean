/- Rows of one cell each; append at a step of a region. No program stands in this text. -/
import Derived.Test.YtkimldeagndgjaaMem
import Derived.Maps.AppendAt
import Derived.OwnWalk
import Derived.RegionTactic
namespace Go.Proofs.Ytkimldeagndgjaa
set_option linter.unusedVariables false
set_option linter.unusedSimpArgs false
open Go.RowKit

/-- A row of K one-cell elements. -/
def row1 (K : Nat) (f : Nat → Value) : Array Value := Array.ofFn (n := K) fun k => f k.val
theorem row1_get {K : Nat} {f : Nat → Value} {i : Nat} (hi : i < K) : (row1 K f)[i]? = some (f i) := by simp [row1, hi]
theorem row1_size (K : Nat) (f : Nat → Value) : (row1 K f).size = K := by simp [row1]
theorem row1_set {K : Nat} {f : Nat → Value} {i : Nat} (u : Value) : (row1 K f).setIfInBounds i u = row1 K (fun j => if j = i then u else f j) := by
  apply Array.ext_getElem?
  intro k
  rw [Array.getElem?_setIfInBounds, row1_size]
  by_cases c : i = k
  · subst c
    by_cases h : i < K
    · simp [row1_get h, h]
    · simp [row1, h]
  · rw [if_neg c]
    by_cases h : k < K
    · rw [row1_get h, row1_get h, if_neg (fun e => c e.symm)]
    · simp [row1, h]
theorem row1_congr {K : Nat} {f f' : Nat → Value} (h : ∀ i, i < K → f i = f' i) : row1 K f = row1 K f' := by
  apply Array.ext_getElem?
  intro k
  by_cases hk : k < K
  · rw [row1_get hk, row1_get hk, h k hk]
  · simp [row1, hk]
theorem madeCells_row1 (z : Array Value) (n : Nat) (hz : z.size = 1) : madeCells z n = row1 n (fun _ => z[0]!) := by
  apply Array.ext_getElem?
  intro k
  simp only [madeCells, Array.getElem?_map, hz, row1]
  by_cases h : k < n
  · simp [h, Nat.mod_one]
  · simp [h]
theorem run_makeRow1 {P : Program} {t e : TypeId} {i : TypeInfo} {z : Value} (ht : P.underlying t = some (.slice e)) (hi : P.info? e = some i) (hz : i.zero = some z) (hs : i.size = 1) (hc : z.cells.size = 1)
    (n : Nat) (hb : i.bytes * n ≤ 281474976710656) (h63 : n ≤ 9223372036854775807) (w : World) :
    (Instr.makeSlice t (.int .i64 (n : Int)) (.int .i64 (n : Int))).run P w = .ok (.slice (some ⟨w.heap.size, 0, none⟩) n n) (w.alloc (.cells (row1 n (fun _ => z.cells[0]!)) e)) := by
  have h := run_make (P := P) w t e i z ht hi hz .i64 .i64 n n (by omega) (by omega) (by rw [← Int.natCast_mul]; omega) (by omega)
  simp only [Int.toNat_natCast, hs, Nat.mul_one] at h
  rw [madeCells_row1 _ _ hc] at h
  exact h

section
variable {w w' : World} {g : Nat} {t : TypeId} {K : Nat} {f : Nat → Value}
theorem Blk.rat (h : Blk w g t (row1 K f)) {i : Nat} (hi : i < K) : w.cell? ⟨g, i, none⟩ = some (f i) := by rw [h.cell, row1_get hi]
theorem Blk.rput {i : Nat} {u : Value} (h : Blk w g t (row1 K f)) : Blk (w.setCell ⟨g, i, none⟩ u) g t (row1 K (fun j => if j = i then u else f j)) := by
  have := h.same i u; rwa [row1_set] at this
end

/-- The cells that are to be appended. -/
def Src (w : World) (A : Option Addr) (xs : List Value) : Prop := xs ≠ [] → ∃ g o, A = some ⟨g, o, none⟩ ∧ g < w.heap.size ∧ ∀ j u, xs[j]? = some u → w.cell? ⟨g, o + j, none⟩ = some u
theorem Src.nil (w : World) (A : Option Addr) : Src w A [] := fun h => absurd rfl h
theorem Src.mv {w w' : World} {A : Option Addr} {xs : List Value} (h : Src w A xs) (hk : ∀ g o, A = some ⟨g, o, none⟩ → w'.heap[g]? = w.heap[g]?) (hs : w.heap.size ≤ w'.heap.size) : Src w' A xs := fun hn => by
  obtain ⟨g, o, hA, hg, hc⟩ := h hn
  exact ⟨g, o, hA, by omega, fun j u hu => (World.cell?_of_block (hk g o hA)).trans (hc j u hu)⟩
theorem Src.own {w : World} {base n c : Nat} {e : TypeId} {A : Option Addr} {xs : List Value} (h : w.ownsRow base e 1 (.slice A n c) n xs) : Src w A xs := fun hn => by
  rcases h.2 with ⟨_, rfl⟩ | ⟨g, cap, cur, hv, _, hg, hnc, _, hsz, ht⟩
  · exact absurd (List.eq_nil_of_length_eq_zero (by simpa using h.1)) hn
  · injection hv with hA _ _
    refine ⟨g, 0, hA, ?_, fun j u hu => ?_⟩
    · rcases Nat.lt_or_ge g w.heap.size with hl | hl
      · exact hl
      · rw [Array.getElem?_eq_none hl] at hg; cases hg
    · rw [Nat.zero_add, cell_of_row w g j cur e (0, 0) hg]
      rw [← ht] at hu
      have hj := (List.getElem?_eq_some_iff.1 hu).1
      rw [List.length_take] at hj
      rw [List.getElem?_take_of_lt (by omega)] at hu
      simpa using hu
theorem Src.from {w : World} {g n : Nat} {o : Nat} {xs : List Value} (h : Src w (some ⟨g, o, none⟩) xs) (k : Nat) : Src w (some ⟨g, o + k, none⟩) (xs.drop k) := fun hn => by
  have hx : xs ≠ [] := fun e => hn (by simp [e])
  obtain ⟨g', o', hA, hg, hc⟩ := h hx
  injection hA with hA
  injection hA with h1 h2
  subst h1; subst h2
  exact ⟨_, _, rfl, hg, fun j u hu => by rw [Nat.add_assoc]; exact hc _ _ (by rw [← hu, List.getElem?_drop])⟩
theorem Src.take {w : World} {A : Option Addr} {xs : List Value} (h : Src w A xs) (k : Nat) : Src w A (xs.take k) := fun hn => by
  have hx : xs ≠ [] := fun e => hn (by simp [e])
  obtain ⟨g, o, hA, hg, hc⟩ := h hx
  refine ⟨g, o, hA, hg, fun j u hu => hc j u ?_⟩
  have hj := (List.getElem?_eq_some_iff.1 hu).1
  rw [List.length_take] at hj
  rwa [List.getElem?_take_of_lt (by omega)] at hu

/-- What of a world stands behind an append. -/
theorem Fr.grown {S : List Nat} {a w w' : World} {row : Option Nat} (hg : w.grownBy w' row) (hr : ∀ g, row = some g → g ∈ S ∨ a.heap.size ≤ g) (h : Fr S a w) : Fr S a w' :=
  ⟨hg.os.trans h.os, hg.tape.trans h.tape, hg.output.trans h.output, Nat.le_trans h.size hg.size, fun k hk hn => (hg.block k (by have := h.size; omega) (fun e => by
    rcases hr k e.symm with hx | hx
    · exact hn hx
    · omega)).trans (h.block k hk hn)⟩
theorem Blk.grown {w w' : World} {g : Nat} {t : TypeId} {cs : Array Value} {row : Option Nat} (hb : w.grownBy w' row) (hg : some g ≠ row) (h : Blk w g t cs) : Blk w' g t cs := (hb.block g h.lt hg).trans h

section
variable {P : Program} (w : World)
theorem run_app (base : Nat) (t ty e : TypeId) (i : TypeInfo) (z : Value) (bytes : Nat) (ht : P.underlying t = some (.slice e)) (hi : P.info? e = some i) (hz : i.zero = some z)
    (hsize : i.size = 1) (hby : i.bytes = bytes) (hzs : z.cells.size = 1)
    (v : Value) (n : Nat) (xs : List Value) (hown : w.ownsRow base e 1 v n xs)
    (A : Option Addr) (m c : Nat) (news : List Value) (hl : news.length = m) (hs : Src w A news) (h1 : ∀ u ∈ news, u.oneCell' = true)
    (h63 : n + m ≤ 1000000) (hbytes : bytes ≤ 1000000) (hbase : base ≤ w.heap.size) :
    ∃ v' w', (Builtin.append_ #[t, t] ty #[v, .slice A m c]).run P w = .ok v' w' ∧ w'.ownsRow base e 1 v' (n + m) (xs ++ news) ∧ w.grownBy w' v.ownBlock ∧
      (v'.ownBlock = v.ownBlock ∨ v'.ownBlock = some w.heap.size) := by
  have hb : (n + m) * bytes ≤ 140737488355328 := Nat.le_trans (Nat.mul_le_mul h63 hbytes) (by omega)
  have hx : n + m ≤ maxLen := by simp only [maxLen]; omega
  rcases A with _ | ad
  · have hn : news = [] := Classical.byContradiction fun hn => by
      obtain ⟨g, o, hA, _⟩ := hs hn
      cases hA
    subst hn
    have hm : m = 0 := by simpa using hl.symm
    subst hm
    refine ⟨v, w, ?_, by simpa using hown, World.grownBy.refl w _, .inl rfl⟩
    rcases hown.2 with ⟨rfl, rfl⟩ | ⟨g, cap, cur, rfl, _, _, hnc, _⟩
    · simp [Builtin.append_, run_underlying ht, sizeOf, typeInfo, hi, Builtin.lenOf, Builtin.firstCells]
    · simp [Builtin.append_, run_underlying ht, sizeOf, typeInfo, hi, Builtin.lenOf, Builtin.firstCells, hnc, storeCells]
  · have hc : ∀ j u, news[j]? = some u → w.cell? (ad.add j) = some u := fun j u hu => by
      have hn : news ≠ [] := by rintro rfl; simp at hu
      obtain ⟨g, o, hA, _, hc⟩ := hs hn
      injection hA with hA
      subst hA
      have h0 := hc j u hu
      unfold Addr.add
      split
      · rename_i hj
        subst hj
        simpa using h0
      · simpa using h0
    obtain ⟨v', w', h1, h2, h3, _, h5⟩ := run_append_own_at (P := P) w base t ty e i z 1 bytes ht hi hz hsize hby hzs (by omega) v n xs hown ad m c news (by omega) hc h1 hx hb hbase
    exact ⟨v', w', h1, h2, h3, h5⟩

theorem wp_app {o : Oper} {a : Act} {K : Act → World → Prop} {Q : Exit → Act → World → Prop} (s x : Operand) (t : TypeId)
    (ho : o.op = .call { callee := .builtin .append, args := #[s, x], argTypes := #[t, t] })
    (base : Nat) (e : TypeId) (i : TypeInfo) (z : Value) (bytes : Nat) (ht : P.underlying t = some (.slice e)) (hi : P.info? e = some i) (hz : i.zero = some z)
    (hsize : i.size = 1) (hby : i.bytes = bytes) (hzs : z.cells.size = 1)
    (v : Value) (n : Nat) (xs : List Value) (hv : a.eval s = v) (hown : w.ownsRow base e 1 v n xs)
    (A : Option Addr) (m c : Nat) (news : List Value) (hx : a.eval x = .slice A m c) (hl : news.length = m) (hs : Src w A news) (h1 : ∀ u ∈ news, u.oneCell' = true)
    (h63 : n + m ≤ 1000000) (hbytes : bytes ≤ 1000000) (hbase : base ≤ w.heap.size)
    (h : ∀ v' w', w'.ownsRow base e 1 v' (n + m) (xs ++ news) → w.grownBy w' v.ownBlock → (v'.ownBlock = v.ownBlock ∨ v'.ownBlock = some w.heap.size) → K (a.put o.dst v') w') : o.wp P a w K Q := by
  obtain ⟨v', w', hrun, h2, h3, h4⟩ := run_app (P := P) w base t o.type e i z bytes ht hi hz hsize hby hzs v n xs hown A m c news hl hs h1 h63 hbytes hbase
  unfold Oper.wp execOp
  simp only [ho, resolve, invoke, builtin, Sem.run_bind, Sem.run_pure, Result.andThen_ok, List.map_toArray, List.map_cons, List.map_nil, hv, hx, hrun]
  exact h v' w' h2 h3 h4

theorem wpList_app {ops : Array Oper} {rest : List Oper} {o : Oper} {a : Act} {Q : Exit → Act → World → Prop} (hgd : o.guard = none) (s x : Operand) (t : TypeId)
    (ho : o.op = .call { callee := .builtin .append, args := #[s, x], argTypes := #[t, t] })
    (base : Nat) (e : TypeId) (i : TypeInfo) (z : Value) (bytes : Nat) (ht : P.underlying t = some (.slice e)) (hi : P.info? e = some i) (hz : i.zero = some z)
    (hsize : i.size = 1) (hby : i.bytes = bytes) (hzs : z.cells.size = 1)
    (v : Value) (n : Nat) (xs : List Value) (hv : a.eval s = v) (hown : w.ownsRow base e 1 v n xs)
    (A : Option Addr) (m c : Nat) (news : List Value) (hx : a.eval x = .slice A m c) (hl : news.length = m) (hs : Src w A news) (h1 : ∀ u ∈ news, u.oneCell' = true)
    (h63 : n + m ≤ 1000000) (hbytes : bytes ≤ 1000000) (hbase : base ≤ w.heap.size)
    (h : ∀ v' w', w'.ownsRow base e 1 v' (n + m) (xs ++ news) → w.grownBy w' v.ownBlock → (v'.ownBlock = v.ownBlock ∨ v'.ownBlock = some w.heap.size) → wpList P ops Q rest (a.put o.dst v') w') : wpList P ops Q (o :: rest) a w :=
  wpList_plain hgd fun _ hK => wp_app w s x t ho base e i z bytes ht hi hz hsize hby hzs v n xs hv hown A m c news hx hl hs h1 h63 hbytes hbase fun v' w' h2 h3 h4 => hK _ _ (h v' w' h2 h3 h4)

theorem step_app {ops : Array Oper} {o : Oper} {a : Act} {K : Act → World → Prop} {Q : Exit → Act → World → Prop} {E : Prop} (hgd : o.guard = none) (s x : Operand) (t : TypeId)
    (ho : o.op = .call { callee := .builtin .append, args := #[s, x], argTypes := #[t, t] })
    (base : Nat) (e : TypeId) (i : TypeInfo) (z : Value) (bytes : Nat) (ht : P.underlying t = some (.slice e)) (hi : P.info? e = some i) (hz : i.zero = some z)
    (hsize : i.size = 1) (hby : i.bytes = bytes) (hzs : z.cells.size = 1)
    (v : Value) (n : Nat) (xs : List Value) (hv : a.eval s = v) (hown : w.ownsRow base e 1 v n xs)
    (A : Option Addr) (m c : Nat) (news : List Value) (hx : a.eval x = .slice A m c) (hl : news.length = m) (hs : Src w A news) (h1 : ∀ u ∈ news, u.oneCell' = true)
    (h63 : n + m ≤ 1000000) (hbytes : bytes ≤ 1000000) (hbase : base ≤ w.heap.size)
    (h : ∀ v' w', w'.ownsRow base e 1 v' (n + m) (xs ++ news) → w.grownBy w' v.ownBlock → (v'.ownBlock = v.ownBlock ∨ v'.ownBlock = some w.heap.size) → K (a.put o.dst v') w') :
    if Region.wanted o (yielded ops a.tmps) = true then Oper.wp P o a w K Q else E := by
  rw [if_pos (by simp [Region.wanted, hgd])]
  exact wp_app w s x t ho base e i z bytes ht hi hz hsize hby hzs v n xs hv hown A m c news hx hl hs h1 h63 hbytes hbase h
end

/-- A row of ints that the call reads: the slice's value written out. -/
def nums (xs : List Nat) : List Value := xs.map fun x : Nat => .int .i64 (x : Int)
theorem nums_one (xs : List Nat) : ∀ u ∈ nums xs, u.oneCell' = true := by
  intro u hu
  obtain ⟨x, _, rfl⟩ := List.mem_map.1 hu
  rfl
theorem nums_length (xs : List Nat) : (nums xs).length = xs.length := by simp [nums]
theorem own_form {w : World} {base n : Nat} {e : TypeId} {v : Value} {xs : List Value} (h : w.ownsRow base e 1 v n xs) : ∃ A c, v = .slice A n c ∧ n ≤ c := by
  rcases h.2 with ⟨rfl, rfl⟩ | ⟨g, cap, cur, rfl, _, _, hnc, _⟩
  · exact ⟨_, _, rfl, Nat.le_refl _⟩
  · exact ⟨_, _, rfl, hnc⟩
theorem own_some {w : World} {base n : Nat} {e : TypeId} {v : Value} {xs : List Value} (h : w.ownsRow base e 1 v n xs) (hn : 0 < n) : ∃ g c, v = .slice (some ⟨g, 0, none⟩) n c ∧ n ≤ c ∧ g < w.heap.size ∧ ∀ j u, xs[j]? = some u → w.cell? ⟨g, j, none⟩ = some u := by
  have hs := h
  rcases h.2 with ⟨rfl, rfl⟩ | ⟨g, cap, cur, rfl, _, _, hnc, _⟩
  · omega
  · have hx : xs ≠ [] := by rintro rfl; have := h.1; simp at this; omega
    obtain ⟨g', o', hA, hg, hc⟩ := Src.own hs hx
    injection hA with hA
    injection hA with h1 h2
    subst h1; subst h2
    exact ⟨_, _, rfl, hnc, hg, fun j u hu => by simpa using hc j u hu⟩
theorem own_via {S : List Nat} {w w' : World} {base n : Nat} {e : TypeId} {v : Value} {xs : List Value} (hf : Fr S w w') (hg : ∀ g, v.ownBlock = some g → g ∉ S) (h : w.ownsRow base e 1 v n xs) : w'.ownsRow base e 1 v n xs := by
  refine ⟨h.1, ?_⟩
  rcases h.2 with h0 | ⟨g, cap, cur, rfl, hb, hh, rest⟩
  · exact .inl h0
  · have hl : g < w.heap.size := by
      rcases Nat.lt_or_ge g w.heap.size with hl | hl
      · exact hl
      · rw [Array.getElem?_eq_none hl] at hh; cases hh
    exact .inr ⟨g, cap, cur, rfl, hb, (hf.block g hl (hg g rfl)).trans hh, rest⟩
theorem own_off {w : World} {base n g : Nat} {e t : TypeId} {v : Value} {xs : List Value} {cs : Array Value} (h : w.ownsRow base e 1 v n xs) (hB : Blk w g t cs) (hne : e ≠ t) : ∀ k, v.ownBlock = some k → k ≠ g := by
  intro k hk
  rcases h.2 with ⟨rfl, rfl⟩ | ⟨g', cap, cur, rfl, hb, hh, rest⟩
  · cases hk
  · injection hk with hk
    have hk : g' = k := hk
    subst hk
    exact Blk.ne (t := e) hh hB hne
theorem own_base {w : World} {base base' n : Nat} {e : TypeId} {v : Value} {xs : List Value} (h : w.ownsRow base e 1 v n xs) (hb : base' ≤ base) : w.ownsRow base' e 1 v n xs := by
  refine ⟨h.1, ?_⟩
  rcases h.2 with h0 | ⟨g, cap, cur, rfl, hb', rest⟩
  · exact .inl h0
  · exact .inr ⟨g, cap, cur, rfl, by omega, rest⟩
theorem own_fresh (w : World) (e : TypeId) (cs : Array Value) (hm : cs.size ≤ maxLen) : (w.alloc (.cells cs e)).ownsRow w.heap.size e 1 (.slice (some ⟨w.heap.size, 0, none⟩) cs.size cs.size) cs.size cs.toList := by
  refine ⟨by simp, .inr ⟨_, _, cs, rfl, Nat.le_refl _, heap_alloc_new w _, Nat.le_refl _, hm, by simp, ?_⟩⟩
  rw [Nat.mul_one, ← Array.length_toList, List.take_length]
theorem own_empty {w : World} {e : TypeId} {g base : Nat} (hg : g = w.heap.size) (hb : base ≤ w.heap.size) : (w.alloc (.cells #[] e)).ownsRow base e 1 (.slice (some ⟨g, 0, none⟩) 0 0) 0 [] := by
  subst hg
  exact own_base (own_fresh w e #[] (by decide)) hb
theorem src_one {w : World} {e : TypeId} {g : Nat} {v : Value} (h : Blk w g e #[v]) : Src w (some ⟨g, 0, none⟩) [v] := fun _ => by
  refine ⟨g, 0, rfl, h.lt, fun j u hu => ?_⟩
  rcases j with _ | j
  · rw [Nat.add_zero, h.cell]
    simpa using hu
  · simp at hu
end Go.Proofs.Ytkimldeagndgjaa
