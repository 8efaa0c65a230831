/- Words and contracts: App Copy Clear Bits Fix FixB LadA LadB LadC LadV LadD LadE LadF LadG LadH LadI. -/
import Derived.Maps.AppendAt
import Derived.OwnWalk
import Derived.RegionTactic
import Derived.Laws.CopyOwn
import Derived.Lib.AppendZerosOnto
import Derived.Laws.BitsAllLaws
import Derived.Laws.BitsLemmas
import Derived.Test.YtkimldeagndgjaaProg
import Derived.Deep.DeepCutAuto
import Derived.Deep.RegionHeld3
import Derived.Laws.Bits64b
import Derived.Lib.Overlaps
import Derived.Laws.Externs
import Derived.Outline
import Derived.Test.YtkimldeagndgjaaG0
/- Rows of one cell each; append at a step of a region. No program stands in this text. -/
namespace Go.Proofs.Ytkimldeagndgjaa
set_option linter.unusedVariables false
set_option linter.unusedSimpArgs false
open Go.RowKit

/-- A row of K one-cell elements. -/
def row1 (K : Nat) (f : Nat → Value) : Array Value := Array.ofFn (n := K) fun k => f k.val
theorem row1_get {K : Nat} {f : Nat → Value} {i : Nat} (hi : i < K) : (row1 K f)[i]? = some (f i) := by simp [row1, hi]
theorem row1_size (K : Nat) (f : Nat → Value) : (row1 K f).size = K := by simp [row1]
theorem row1_set {K : Nat} {f : Nat → Value} {i : Nat} (u : Value) : (row1 K f).setIfInBounds i u = row1 K (fun j => if j = i then u else f j) := by
  apply Array.ext_getElem?
  intro k
  rw [Array.getElem?_setIfInBounds, row1_size]
  by_cases c : i = k
  · subst c
    by_cases h : i < K
    · simp [row1_get h, h]
    · simp [row1, h]
  · rw [if_neg c]
    by_cases h : k < K
    · rw [row1_get h, row1_get h, if_neg (fun e => c e.symm)]
    · simp [row1, h]
theorem row1_congr {K : Nat} {f f' : Nat → Value} (h : ∀ i, i < K → f i = f' i) : row1 K f = row1 K f' := by
  apply Array.ext_getElem?
  intro k
  by_cases hk : k < K
  · rw [row1_get hk, row1_get hk, h k hk]
  · simp [row1, hk]
theorem madeCells_row1 (z : Array Value) (n : Nat) (hz : z.size = 1) : madeCells z n = row1 n (fun _ => z[0]!) := by
  apply Array.ext_getElem?
  intro k
  simp only [madeCells, Array.getElem?_map, hz, row1]
  by_cases h : k < n
  · simp [h, Nat.mod_one]
  · simp [h]
theorem run_makeRow1 {P : Program} {t e : TypeId} {i : TypeInfo} {z : Value} (ht : P.underlying t = some (.slice e)) (hi : P.info? e = some i) (hz : i.zero = some z) (hs : i.size = 1) (hc : z.cells.size = 1)
    (n : Nat) (hb : i.bytes * n ≤ 281474976710656) (h63 : n ≤ 9223372036854775807) (w : World) :
    (Instr.makeSlice t (.int .i64 (n : Int)) (.int .i64 (n : Int))).run P w = .ok (.slice (some ⟨w.heap.size, 0, none⟩) n n) (w.alloc (.cells (row1 n (fun _ => z.cells[0]!)) e)) := by
  have h := run_make (P := P) w t e i z ht hi hz .i64 .i64 n n (by omega) (by omega) (by rw [← Int.natCast_mul]; omega) (by omega)
  simp only [Int.toNat_natCast, hs, Nat.mul_one] at h
  rw [madeCells_row1 _ _ hc] at h
  exact h

section
variable {w w' : World} {g : Nat} {t : TypeId} {K : Nat} {f : Nat → Value}
theorem Blk.rat (h : Blk w g t (row1 K f)) {i : Nat} (hi : i < K) : w.cell? ⟨g, i, none⟩ = some (f i) := by rw [h.cell, row1_get hi]
theorem Blk.rput {i : Nat} {u : Value} (h : Blk w g t (row1 K f)) : Blk (w.setCell ⟨g, i, none⟩ u) g t (row1 K (fun j => if j = i then u else f j)) := by
  have := h.same i u; rwa [row1_set] at this
end

/-- The cells that are to be appended. -/
def Src (w : World) (A : Option Addr) (xs : List Value) : Prop := xs ≠ [] → ∃ g o, A = some ⟨g, o, none⟩ ∧ g < w.heap.size ∧ ∀ j u, xs[j]? = some u → w.cell? ⟨g, o + j, none⟩ = some u
theorem Src.nil (w : World) (A : Option Addr) : Src w A [] := fun h => absurd rfl h
theorem Src.mv {w w' : World} {A : Option Addr} {xs : List Value} (h : Src w A xs) (hk : ∀ g o, A = some ⟨g, o, none⟩ → w'.heap[g]? = w.heap[g]?) (hs : w.heap.size ≤ w'.heap.size) : Src w' A xs := fun hn => by
  obtain ⟨g, o, hA, hg, hc⟩ := h hn
  exact ⟨g, o, hA, by omega, fun j u hu => (World.cell?_of_block (hk g o hA)).trans (hc j u hu)⟩
theorem Src.own {w : World} {base n c : Nat} {e : TypeId} {A : Option Addr} {xs : List Value} (h : w.ownsRow base e 1 (.slice A n c) n xs) : Src w A xs := fun hn => by
  rcases h.2 with ⟨_, rfl⟩ | ⟨g, cap, cur, hv, _, hg, hnc, _, hsz, ht⟩
  · exact absurd (List.eq_nil_of_length_eq_zero (by simpa using h.1)) hn
  · injection hv with hA _ _
    refine ⟨g, 0, hA, ?_, fun j u hu => ?_⟩
    · rcases Nat.lt_or_ge g w.heap.size with hl | hl
      · exact hl
      · rw [Array.getElem?_eq_none hl] at hg; cases hg
    · rw [Nat.zero_add, cell_of_row w g j cur e (0, 0) hg]
      rw [← ht] at hu
      have hj := (List.getElem?_eq_some_iff.1 hu).1
      rw [List.length_take] at hj
      rw [List.getElem?_take_of_lt (by omega)] at hu
      simpa using hu
theorem Src.from {w : World} {g n : Nat} {o : Nat} {xs : List Value} (h : Src w (some ⟨g, o, none⟩) xs) (k : Nat) : Src w (some ⟨g, o + k, none⟩) (xs.drop k) := fun hn => by
  have hx : xs ≠ [] := fun e => hn (by simp [e])
  obtain ⟨g', o', hA, hg, hc⟩ := h hx
  injection hA with hA
  injection hA with h1 h2
  subst h1; subst h2
  exact ⟨_, _, rfl, hg, fun j u hu => by rw [Nat.add_assoc]; exact hc _ _ (by rw [← hu, List.getElem?_drop])⟩
theorem Src.take {w : World} {A : Option Addr} {xs : List Value} (h : Src w A xs) (k : Nat) : Src w A (xs.take k) := fun hn => by
  have hx : xs ≠ [] := fun e => hn (by simp [e])
  obtain ⟨g, o, hA, hg, hc⟩ := h hx
  refine ⟨g, o, hA, hg, fun j u hu => hc j u ?_⟩
  have hj := (List.getElem?_eq_some_iff.1 hu).1
  rw [List.length_take] at hj
  rwa [List.getElem?_take_of_lt (by omega)] at hu

/-- What of a world stands behind an append. -/
theorem Fr.grown {S : List Nat} {a w w' : World} {row : Option Nat} (hg : w.grownBy w' row) (hr : ∀ g, row = some g → g ∈ S ∨ a.heap.size ≤ g) (h : Fr S a w) : Fr S a w' :=
  ⟨hg.os.trans h.os, hg.tape.trans h.tape, hg.output.trans h.output, Nat.le_trans h.size hg.size, fun k hk hn => (hg.block k (by have := h.size; omega) (fun e => by
    rcases hr k e.symm with hx | hx
    · exact hn hx
    · omega)).trans (h.block k hk hn)⟩
theorem Blk.grown {w w' : World} {g : Nat} {t : TypeId} {cs : Array Value} {row : Option Nat} (hb : w.grownBy w' row) (hg : some g ≠ row) (h : Blk w g t cs) : Blk w' g t cs := (hb.block g h.lt hg).trans h

section
variable {P : Program} (w : World)
theorem run_app (base : Nat) (t ty e : TypeId) (i : TypeInfo) (z : Value) (bytes : Nat) (ht : P.underlying t = some (.slice e)) (hi : P.info? e = some i) (hz : i.zero = some z)
    (hsize : i.size = 1) (hby : i.bytes = bytes) (hzs : z.cells.size = 1)
    (v : Value) (n : Nat) (xs : List Value) (hown : w.ownsRow base e 1 v n xs)
    (A : Option Addr) (m c : Nat) (news : List Value) (hl : news.length = m) (hs : Src w A news) (h1 : ∀ u ∈ news, u.oneCell' = true)
    (h63 : n + m ≤ 1000000) (hbytes : bytes ≤ 1000000) (hbase : base ≤ w.heap.size) :
    ∃ v' w', (Builtin.append_ #[t, t] ty #[v, .slice A m c]).run P w = .ok v' w' ∧ w'.ownsRow base e 1 v' (n + m) (xs ++ news) ∧ w.grownBy w' v.ownBlock ∧
      (v'.ownBlock = v.ownBlock ∨ v'.ownBlock = some w.heap.size) := by
  have hb : (n + m) * bytes ≤ 140737488355328 := Nat.le_trans (Nat.mul_le_mul h63 hbytes) (by omega)
  have hx : n + m ≤ maxLen := by simp only [maxLen]; omega
  rcases A with _ | ad
  · have hn : news = [] := Classical.byContradiction fun hn => by
      obtain ⟨g, o, hA, _⟩ := hs hn
      cases hA
    subst hn
    have hm : m = 0 := by simpa using hl.symm
    subst hm
    refine ⟨v, w, ?_, by simpa using hown, World.grownBy.refl w _, .inl rfl⟩
    rcases hown.2 with ⟨rfl, rfl⟩ | ⟨g, cap, cur, rfl, _, _, hnc, _⟩
    · simp [Builtin.append_, run_underlying ht, sizeOf, typeInfo, hi, Builtin.lenOf, Builtin.firstCells]
    · simp [Builtin.append_, run_underlying ht, sizeOf, typeInfo, hi, Builtin.lenOf, Builtin.firstCells, hnc, storeCells]
  · have hc : ∀ j u, news[j]? = some u → w.cell? (ad.add j) = some u := fun j u hu => by
      have hn : news ≠ [] := by rintro rfl; simp at hu
      obtain ⟨g, o, hA, _, hc⟩ := hs hn
      injection hA with hA
      subst hA
      have h0 := hc j u hu
      unfold Addr.add
      split
      · rename_i hj
        subst hj
        simpa using h0
      · simpa using h0
    obtain ⟨v', w', h1, h2, h3, _, h5⟩ := run_append_own_at (P := P) w base t ty e i z 1 bytes ht hi hz hsize hby hzs (by omega) v n xs hown ad m c news (by omega) hc h1 hx hb hbase
    exact ⟨v', w', h1, h2, h3, h5⟩

theorem wp_app {o : Oper} {a : Act} {K : Act → World → Prop} {Q : Exit → Act → World → Prop} (s x : Operand) (t : TypeId)
    (ho : o.op = .call { callee := .builtin .append, args := #[s, x], argTypes := #[t, t] })
    (base : Nat) (e : TypeId) (i : TypeInfo) (z : Value) (bytes : Nat) (ht : P.underlying t = some (.slice e)) (hi : P.info? e = some i) (hz : i.zero = some z)
    (hsize : i.size = 1) (hby : i.bytes = bytes) (hzs : z.cells.size = 1)
    (v : Value) (n : Nat) (xs : List Value) (hv : a.eval s = v) (hown : w.ownsRow base e 1 v n xs)
    (A : Option Addr) (m c : Nat) (news : List Value) (hx : a.eval x = .slice A m c) (hl : news.length = m) (hs : Src w A news) (h1 : ∀ u ∈ news, u.oneCell' = true)
    (h63 : n + m ≤ 1000000) (hbytes : bytes ≤ 1000000) (hbase : base ≤ w.heap.size)
    (h : ∀ v' w', w'.ownsRow base e 1 v' (n + m) (xs ++ news) → w.grownBy w' v.ownBlock → (v'.ownBlock = v.ownBlock ∨ v'.ownBlock = some w.heap.size) → K (a.put o.dst v') w') : o.wp P a w K Q := by
  obtain ⟨v', w', hrun, h2, h3, h4⟩ := run_app (P := P) w base t o.type e i z bytes ht hi hz hsize hby hzs v n xs hown A m c news hl hs h1 h63 hbytes hbase
  unfold Oper.wp execOp
  simp only [ho, resolve, invoke, builtin, Sem.run_bind, Sem.run_pure, Result.andThen_ok, List.map_toArray, List.map_cons, List.map_nil, hv, hx, hrun]
  exact h v' w' h2 h3 h4

theorem wpList_app {ops : Array Oper} {rest : List Oper} {o : Oper} {a : Act} {Q : Exit → Act → World → Prop} (hgd : o.guard = none) (s x : Operand) (t : TypeId)
    (ho : o.op = .call { callee := .builtin .append, args := #[s, x], argTypes := #[t, t] })
    (base : Nat) (e : TypeId) (i : TypeInfo) (z : Value) (bytes : Nat) (ht : P.underlying t = some (.slice e)) (hi : P.info? e = some i) (hz : i.zero = some z)
    (hsize : i.size = 1) (hby : i.bytes = bytes) (hzs : z.cells.size = 1)
    (v : Value) (n : Nat) (xs : List Value) (hv : a.eval s = v) (hown : w.ownsRow base e 1 v n xs)
    (A : Option Addr) (m c : Nat) (news : List Value) (hx : a.eval x = .slice A m c) (hl : news.length = m) (hs : Src w A news) (h1 : ∀ u ∈ news, u.oneCell' = true)
    (h63 : n + m ≤ 1000000) (hbytes : bytes ≤ 1000000) (hbase : base ≤ w.heap.size)
    (h : ∀ v' w', w'.ownsRow base e 1 v' (n + m) (xs ++ news) → w.grownBy w' v.ownBlock → (v'.ownBlock = v.ownBlock ∨ v'.ownBlock = some w.heap.size) → wpList P ops Q rest (a.put o.dst v') w') : wpList P ops Q (o :: rest) a w :=
  wpList_plain hgd fun _ hK => wp_app w s x t ho base e i z bytes ht hi hz hsize hby hzs v n xs hv hown A m c news hx hl hs h1 h63 hbytes hbase fun v' w' h2 h3 h4 => hK _ _ (h v' w' h2 h3 h4)

theorem step_app {ops : Array Oper} {o : Oper} {a : Act} {K : Act → World → Prop} {Q : Exit → Act → World → Prop} {E : Prop} (hgd : o.guard = none) (s x : Operand) (t : TypeId)
    (ho : o.op = .call { callee := .builtin .append, args := #[s, x], argTypes := #[t, t] })
    (base : Nat) (e : TypeId) (i : TypeInfo) (z : Value) (bytes : Nat) (ht : P.underlying t = some (.slice e)) (hi : P.info? e = some i) (hz : i.zero = some z)
    (hsize : i.size = 1) (hby : i.bytes = bytes) (hzs : z.cells.size = 1)
    (v : Value) (n : Nat) (xs : List Value) (hv : a.eval s = v) (hown : w.ownsRow base e 1 v n xs)
    (A : Option Addr) (m c : Nat) (news : List Value) (hx : a.eval x = .slice A m c) (hl : news.length = m) (hs : Src w A news) (h1 : ∀ u ∈ news, u.oneCell' = true)
    (h63 : n + m ≤ 1000000) (hbytes : bytes ≤ 1000000) (hbase : base ≤ w.heap.size)
    (h : ∀ v' w', w'.ownsRow base e 1 v' (n + m) (xs ++ news) → w.grownBy w' v.ownBlock → (v'.ownBlock = v.ownBlock ∨ v'.ownBlock = some w.heap.size) → K (a.put o.dst v') w') :
    if Region.wanted o (yielded ops a.tmps) = true then Oper.wp P o a w K Q else E := by
  rw [if_pos (by simp [Region.wanted, hgd])]
  exact wp_app w s x t ho base e i z bytes ht hi hz hsize hby hzs v n xs hv hown A m c news hx hl hs h1 h63 hbytes hbase h
end

/-- A row of ints that the call reads: the slice's value written out. -/
def nums (xs : List Nat) : List Value := xs.map fun x : Nat => .int .i64 (x : Int)
theorem nums_one (xs : List Nat) : ∀ u ∈ nums xs, u.oneCell' = true := by
  intro u hu
  obtain ⟨x, _, rfl⟩ := List.mem_map.1 hu
  rfl
theorem nums_length (xs : List Nat) : (nums xs).length = xs.length := by simp [nums]
theorem own_form {w : World} {base n : Nat} {e : TypeId} {v : Value} {xs : List Value} (h : w.ownsRow base e 1 v n xs) : ∃ A c, v = .slice A n c ∧ n ≤ c := by
  rcases h.2 with ⟨rfl, rfl⟩ | ⟨g, cap, cur, rfl, _, _, hnc, _⟩
  · exact ⟨_, _, rfl, Nat.le_refl _⟩
  · exact ⟨_, _, rfl, hnc⟩
theorem own_some {w : World} {base n : Nat} {e : TypeId} {v : Value} {xs : List Value} (h : w.ownsRow base e 1 v n xs) (hn : 0 < n) : ∃ g c, v = .slice (some ⟨g, 0, none⟩) n c ∧ n ≤ c ∧ g < w.heap.size ∧ ∀ j u, xs[j]? = some u → w.cell? ⟨g, j, none⟩ = some u := by
  have hs := h
  rcases h.2 with ⟨rfl, rfl⟩ | ⟨g, cap, cur, rfl, _, _, hnc, _⟩
  · omega
  · have hx : xs ≠ [] := by rintro rfl; have := h.1; simp at this; omega
    obtain ⟨g', o', hA, hg, hc⟩ := Src.own hs hx
    injection hA with hA
    injection hA with h1 h2
    subst h1; subst h2
    exact ⟨_, _, rfl, hnc, hg, fun j u hu => by simpa using hc j u hu⟩
theorem own_via {S : List Nat} {w w' : World} {base n : Nat} {e : TypeId} {v : Value} {xs : List Value} (hf : Fr S w w') (hg : ∀ g, v.ownBlock = some g → g ∉ S) (h : w.ownsRow base e 1 v n xs) : w'.ownsRow base e 1 v n xs := by
  refine ⟨h.1, ?_⟩
  rcases h.2 with h0 | ⟨g, cap, cur, rfl, hb, hh, rest⟩
  · exact .inl h0
  · have hl : g < w.heap.size := by
      rcases Nat.lt_or_ge g w.heap.size with hl | hl
      · exact hl
      · rw [Array.getElem?_eq_none hl] at hh; cases hh
    exact .inr ⟨g, cap, cur, rfl, hb, (hf.block g hl (hg g rfl)).trans hh, rest⟩
theorem own_off {w : World} {base n g : Nat} {e t : TypeId} {v : Value} {xs : List Value} {cs : Array Value} (h : w.ownsRow base e 1 v n xs) (hB : Blk w g t cs) (hne : e ≠ t) : ∀ k, v.ownBlock = some k → k ≠ g := by
  intro k hk
  rcases h.2 with ⟨rfl, rfl⟩ | ⟨g', cap, cur, rfl, hb, hh, rest⟩
  · cases hk
  · injection hk with hk
    have hk : g' = k := hk
    subst hk
    exact Blk.ne (t := e) hh hB hne
theorem own_base {w : World} {base base' n : Nat} {e : TypeId} {v : Value} {xs : List Value} (h : w.ownsRow base e 1 v n xs) (hb : base' ≤ base) : w.ownsRow base' e 1 v n xs := by
  refine ⟨h.1, ?_⟩
  rcases h.2 with h0 | ⟨g, cap, cur, rfl, hb', rest⟩
  · exact .inl h0
  · exact .inr ⟨g, cap, cur, rfl, by omega, rest⟩
theorem own_fresh (w : World) (e : TypeId) (cs : Array Value) (hm : cs.size ≤ maxLen) : (w.alloc (.cells cs e)).ownsRow w.heap.size e 1 (.slice (some ⟨w.heap.size, 0, none⟩) cs.size cs.size) cs.size cs.toList := by
  refine ⟨by simp, .inr ⟨_, _, cs, rfl, Nat.le_refl _, heap_alloc_new w _, Nat.le_refl _, hm, by simp, ?_⟩⟩
  rw [Nat.mul_one, ← Array.length_toList, List.take_length]
theorem own_empty {w : World} {e : TypeId} {g base : Nat} (hg : g = w.heap.size) (hb : base ≤ w.heap.size) : (w.alloc (.cells #[] e)).ownsRow base e 1 (.slice (some ⟨g, 0, none⟩) 0 0) 0 [] := by
  subst hg
  exact own_base (own_fresh w e #[] (by decide)) hb
theorem src_one {w : World} {e : TypeId} {g : Nat} {v : Value} (h : Blk w g e #[v]) : Src w (some ⟨g, 0, none⟩) [v] := fun _ => by
  refine ⟨g, 0, rfl, h.lt, fun j u hu => ?_⟩
  rcases j with _ | j
  · rw [Nat.add_zero, h.cell]
    simpa using hu
  · simp at hu
end Go.Proofs.Ytkimldeagndgjaa

/- copy and append of zeros on rows of structs. No program stands in this text. -/
namespace Go.Proofs.Ytkimldeagndgjaa
set_option linter.unusedVariables false
set_option linter.unusedSimpArgs false
open Go.RowKit

section
variable {P : Program} (w : World)
theorem run_copyS (dT sT ty elem : TypeId) (s g o dLen dCap : Nat) (a : Addr) (sLen sCap : Nat) (cur : Array Value) (t : TypeId) (cs : List Value)
    (hu : P.underlying dT = some (.slice elem)) (hs : (P.info? elem).map (·.size) = some s)
    (hg : w.heap[g]? = some (.cells cur t (0, 0))) (hn : cs.length = Nat.min sLen dLen * s)
    (hsrc : ∀ j v, cs[j]? = some v → w.cell? (a.add j) = some v) (hfit : o + cs.length ≤ cur.size) (h1 : ∀ v ∈ cs, v.oneCell' = true) :
    (Builtin.copy_ #[dT, sT] ty #[.slice (some ⟨g, o, none⟩) dLen dCap, .slice (some a) sLen sCap]).run P w =
      .ok (goInt (Nat.min sLen dLen)) (w.setRow g (cur.toList.take o ++ cs ++ cur.toList.drop (o + cs.length)).toArray) := by
  have hl := run_loadCells_list (P := P) w a cs hsrc
  have hst := run_storeCells_at P g o t cs 0 cur w hg (by simpa using hfit) h1
  cases hq : P.info? elem with
  | none => simp [hq] at hs
  | some i =>
    have hi : i.size = s := by simpa [hq] using hs
    simp [Builtin.copy_, run_underlying hu, Builtin.lenOf, Builtin.firstCells, sizeOf, typeInfo, hq, hi, ← hn, hl, hst]

theorem wp_copyS {o : Oper} {a : Act} {K : Act → World → Prop} {Q : Exit → Act → World → Prop} (d x : Operand) (dT sT : TypeId)
    (ho : o.op = .call { callee := .builtin .copy, args := #[d, x], argTypes := #[dT, sT] })
    (elem : TypeId) (s : Nat) (hu : P.underlying dT = some (.slice elem)) (hs : (P.info? elem).map (·.size) = some s)
    (g off dLen dCap : Nat) (ad : Addr) (sLen sCap : Nat) (hd : a.eval d = .slice (some ⟨g, off, none⟩) dLen dCap) (hx : a.eval x = .slice (some ad) sLen sCap)
    (cur : Array Value) (t : TypeId) (B : Blk w g t cur) (cs : List Value) (hn : cs.length = Nat.min sLen dLen * s)
    (hsrc : ∀ j v, cs[j]? = some v → w.cell? (ad.add j) = some v) (hfit : off + cs.length ≤ cur.size) (h1 : ∀ v ∈ cs, v.oneCell' = true)
    (h : ∀ w', Blk w' g t (cur.toList.take off ++ cs ++ cur.toList.drop (off + cs.length)).toArray → Fr [g] w w' → K (a.put o.dst (goInt (Nat.min sLen dLen))) w') : o.wp P a w K Q := by
  have hrun := run_copyS (P := P) w dT sT o.type elem s g off dLen dCap ad sLen sCap cur t cs hu hs B hn hsrc hfit h1
  unfold Oper.wp execOp
  simp only [ho, resolve, invoke, builtin, Sem.run_bind, Sem.run_pure, Result.andThen_ok, List.map_toArray, List.map_cons, List.map_nil, hd, hx, hrun]
  refine h _ (setRow_heap w g cur _ t _ B) ⟨rfl, rfl, rfl, by simp [World.setRow], fun k _ hk => setRow_other w g k _ (fun e => hk (by simp [e]))⟩
theorem wpList_copyS {ops : Array Oper} {rest : List Oper} {o : Oper} {a : Act} {Q : Exit → Act → World → Prop} (hgd : o.guard = none) (d x : Operand) (dT sT : TypeId)
    (ho : o.op = .call { callee := .builtin .copy, args := #[d, x], argTypes := #[dT, sT] })
    (elem : TypeId) (s : Nat) (hu : P.underlying dT = some (.slice elem)) (hs : (P.info? elem).map (·.size) = some s)
    (g off dLen dCap : Nat) (ad : Addr) (sLen sCap : Nat) (hd : a.eval d = .slice (some ⟨g, off, none⟩) dLen dCap) (hx : a.eval x = .slice (some ad) sLen sCap)
    (cur : Array Value) (t : TypeId) (B : Blk w g t cur) (cs : List Value) (hn : cs.length = Nat.min sLen dLen * s)
    (hsrc : ∀ j v, cs[j]? = some v → w.cell? (ad.add j) = some v) (hfit : off + cs.length ≤ cur.size) (h1 : ∀ v ∈ cs, v.oneCell' = true)
    (h : ∀ w', Blk w' g t (cur.toList.take off ++ cs ++ cur.toList.drop (off + cs.length)).toArray → Fr [g] w w' → wpList P ops Q rest (a.put o.dst (goInt (Nat.min sLen dLen))) w') : wpList P ops Q (o :: rest) a w :=
  wpList_plain hgd fun _ hK => wp_copyS w d x dT sT ho elem s hu hs g off dLen dCap ad sLen sCap hd hx cur t B cs hn hsrc hfit h1 fun w' h2 h3 => hK _ _ (h w' h2 h3)
theorem step_copyS {ops : Array Oper} {o : Oper} {a : Act} {K : Act → World → Prop} {Q : Exit → Act → World → Prop} {E : Prop} (hgd : o.guard = none) (d x : Operand) (dT sT : TypeId)
    (ho : o.op = .call { callee := .builtin .copy, args := #[d, x], argTypes := #[dT, sT] })
    (elem : TypeId) (s : Nat) (hu : P.underlying dT = some (.slice elem)) (hs : (P.info? elem).map (·.size) = some s)
    (g off dLen dCap : Nat) (ad : Addr) (sLen sCap : Nat) (hd : a.eval d = .slice (some ⟨g, off, none⟩) dLen dCap) (hx : a.eval x = .slice (some ad) sLen sCap)
    (cur : Array Value) (t : TypeId) (B : Blk w g t cur) (cs : List Value) (hn : cs.length = Nat.min sLen dLen * s)
    (hsrc : ∀ j v, cs[j]? = some v → w.cell? (ad.add j) = some v) (hfit : off + cs.length ≤ cur.size) (h1 : ∀ v ∈ cs, v.oneCell' = true)
    (h : ∀ w', Blk w' g t (cur.toList.take off ++ cs ++ cur.toList.drop (off + cs.length)).toArray → Fr [g] w w' → K (a.put o.dst (goInt (Nat.min sLen dLen))) w') :
    if Region.wanted o (yielded ops a.tmps) = true then Oper.wp P o a w K Q else E := by
  rw [if_pos (by simp [Region.wanted, hgd])]
  exact wp_copyS w d x dT sT ho elem s hu hs g off dLen dCap ad sLen sCap hd hx cur t B cs hn hsrc hfit h1 h

/-- append(s, make([]T, k)...) where there is no room. -/
theorem wpList_appZ {ops : Array Oper} {rest : List Oper} {o : Oper} {a : Act} {Q : Exit → Act → World → Prop} (hgd : o.guard = none) (s x : Operand) (t tn : TypeId)
    (ho : o.op = .call { callee := .builtin .append, args := #[s, x], argTypes := #[t, tn] })
    (e : TypeId) (i : TypeInfo) (z : Value) (size : Nat) (kq kn : IntKind) (ht : P.underlying t = some (.slice e)) (htn : P.underlying tn = some (.int kn)) (hi : P.info? e = some i) (hz : i.zero = some z) (hsz : i.size = size) (hzs : z.cells.size = size) (hpos : 0 < size) (hby : i.bytes ≤ 1000000)
    (g n cap k : Nat) (hs : a.eval s = .slice (some ⟨g, 0, none⟩) n cap) (hx : a.eval x = .int kq (k : Int)) (cur : Array Value) (t' : TypeId) (B : Blk w g t' cur) (hc : cur.size = cap * size) (hnc : n ≤ cap) (h0 : 0 < k) (hg : cap < n + k) (hb : n + k ≤ 1000000) (len : Nat) (hlen : n + k = len)
    (h : ∀ w' cap' new, len ≤ cap' → Blk w' w.heap.size e new → new.size = cap' * size → (∀ j, j < n * size → new[j]? = cur[j]?) → Fr [] w w' → wpList P ops Q rest (a.put o.dst (.slice (some ⟨w.heap.size, 0, none⟩) len cap')) w') : wpList P ops Q (o :: rest) a w := by
  subst hsz
  subst hlen
  have hle : n * i.size ≤ cap * i.size := Nat.mul_le_mul_right _ hnc
  have hold : (Builtin.firstCells i.size n (.slice (some ⟨g, 0, none⟩) n cap)).run P w.drew = .ok (cur.toList.take (n * i.size)).toArray w.drew := by
    have hl := run_loadCells_list (P := P) w.drew ⟨g, 0, none⟩ (cur.toList.take (n * i.size)) (fun j v hj => by
      have hjl := (List.getElem?_eq_some_iff.1 hj).1
      rw [List.length_take] at hjl
      rw [List.getElem?_take_of_lt (by omega)] at hj
      have : (⟨g, 0, none⟩ : Addr).add j = ⟨g, j, none⟩ := by unfold Addr.add; split <;> simp_all
      rw [this, (B.drew).cell j]
      simpa using hj)
    have hlen : (cur.toList.take (n * i.size)).length = n * i.size := by rw [List.length_take]; simp; omega
    rw [hlen] at hl
    simpa [Builtin.firstCells] using hl
  have hk1 : k * i.bytes ≤ 1000000 * 1000000 := Nat.mul_le_mul (by omega) hby
  have hrun := Lib.run_append_grow_zeros (P := P) w t tn o.type e i z kq kn ht htn hi hz (some ⟨g, 0, none⟩) n cap (cur.toList.take (n * i.size)) hold k h0 hpos hg (by omega) (by omega)
    (growslice_fits (by omega) (Nat.le_trans (Nat.mul_le_mul hb hby) (by omega)))
  refine wpList_plain hgd fun Kq hKq => ?_
  unfold Oper.wp execOp
  simp only [ho, resolve, invoke, builtin, Sem.run_bind, Sem.run_pure, Result.andThen_ok, List.map_toArray, List.map_cons, List.map_nil, hs, hx, hrun]
  have hge := grownCap_ge w (n + k) cap e
  refine hKq _ _ (h _ _ _ hge (Blk.new _ _ _) ?_ (fun j hj => ?_) ?_)
  · simp only [Array.size_append, List.size_toArray, size_zeroCells, hzs, List.length_take, Array.length_toList, hc]
    rw [Nat.min_eq_left hle, ← Nat.add_mul, ← Nat.add_mul]
    congr 1
    omega
  · have hl1 : j < (cur.toList.take (n * i.size)).toArray.size := by simp; omega
    rw [Array.getElem?_append_left (by simp only [Array.size_append]; omega), Array.getElem?_append_left hl1]
    simp [hj]
  · exact (Fr.drew (Fr.refl _ _)).alloc _
/-- append behind a row of structs, nil let in. -/
theorem run_appS (t ty e : TypeId) (i : TypeInfo) (z : Value) (size : Nat) (ht : P.underlying t = some (.slice e)) (hi : P.info? e = some i) (hz : i.zero = some z) (hsz : i.size = size) (hzs : z.cells.size = size) (hpos : 0 < size) (hby : i.bytes ≤ 1000000)
    (v : Value) (n : Nat) (hv : (v = .slice none 0 0 ∧ n = 0) ∨ ∃ g cap cur, v = .slice (some ⟨g, 0, none⟩) n cap ∧ n ≤ cap ∧ Blk w g e cur ∧ cur.size = cap * size)
    (a : Addr) (m c : Nat) (news : List Value) (hl : news.length = m * size) (hnews : ∀ j u, news[j]? = some u → w.cell? (a.add j) = some u) (h1 : ∀ u ∈ news, u.oneCell' = true) (hm : 0 < m) (hb : n + m ≤ 1000000) :
    ∃ g' cap' new w', (Builtin.append_ #[t, t] ty #[v, .slice (some a) m c]).run P w = .ok (.slice (some ⟨g', 0, none⟩) (n + m) cap') w' ∧ n + m ≤ cap' ∧ Blk w' g' e new ∧ new.size = cap' * size ∧
      (∀ g cap, v = .slice (some ⟨g, 0, none⟩) n cap → ∀ j, j < n * size → new[j]? = w.cell? ⟨g, j, none⟩) ∧ (∀ j, j < m * size → new[n * size + j]? = news[j]?) ∧ Fr v.ownBlock.toList w w' ∧ (v.ownBlock = some g' ∨ g' = w.heap.size) := by
  subst hsz
  have hk : (n + m) * i.bytes ≤ 1000000 * 1000000 := Nat.mul_le_mul hb hby
  rcases hv with ⟨rfl, rfl⟩ | ⟨g, cap, cur, rfl, hnc, B, hcs⟩
  · have hr := run_append_nil (P := P) w t ty e i z ht hi hz a m c news hl hnews hm (by omega) (by simp only [Nat.zero_add] at hk; omega)
    have hge := grownCap_ge w m 0 e
    rw [Nat.zero_add]
    refine ⟨_, _, _, _, hr, hge, Blk.new _ _ _, ?_, fun g cap h => (by cases h), fun j hj => ?_, (Fr.drew (Fr.refl _ _)).alloc _, .inr rfl⟩
    · simp only [Array.size_append, List.size_toArray, size_zeroCells, hzs, hl, ← Nat.add_mul]
      congr 1
      omega
    · rw [Nat.zero_mul, Nat.zero_add, Array.getElem?_append_left (by simp; omega)]
      simp
  · by_cases hroom : n + m ≤ cap
    · have hfit : n * i.size + news.length ≤ cur.size := by rw [hl, hcs, ← Nat.add_mul]; exact Nat.mul_le_mul_right _ hroom
      have hr := run_append_room (P := P) w t ty e i ht hi g n cap cur B a m c news hl hnews h1 hroom hfit
      refine ⟨g, cap, _, _, hr, hroom, setRow_heap w g cur _ e _ B, ?_, fun g' cap' h j hj => ?_, fun j hj => ?_, ⟨rfl, rfl, rfl, by simp [World.setRow], fun k _ hk => setRow_other w g k _ (fun e => hk (by simp [Value.ownBlock, e]))⟩, .inl rfl⟩
      · simp only [List.size_toArray, List.length_append, List.length_take, List.length_drop, Array.length_toList]
        omega
      · injection h with h
        injection h with h
        injection h with h
        subst h
        rw [B.cell j]
        simp only [List.getElem?_toArray]
        rw [List.append_assoc, List.getElem?_append_left (by rw [List.length_take, Array.length_toList]; omega), List.getElem?_take_of_lt hj]
        simp
      · simp only [List.getElem?_toArray]
        have hlo : (cur.toList.take (n * i.size)).length = n * i.size := by rw [List.length_take, Array.length_toList]; omega
        rw [List.append_assoc, List.getElem?_append_right (by omega), hlo, Nat.add_sub_cancel_left, List.getElem?_append_left (by omega)]
    · have hle : n * i.size ≤ cap * i.size := Nat.mul_le_mul_right _ hnc
      have hlo : (cur.toList.take (n * i.size)).length = n * i.size := by rw [List.length_take]; simp; omega
      have holds : ∀ j u, (cur.toList.take (n * i.size))[j]? = some u → w.cell? ((⟨g, 0, none⟩ : Addr).add j) = some u := by
        intro j u hj
        have hjl := (List.getElem?_eq_some_iff.1 hj).1
        rw [hlo] at hjl
        rw [List.getElem?_take_of_lt hjl] at hj
        have : (⟨g, 0, none⟩ : Addr).add j = ⟨g, j, none⟩ := by unfold Addr.add; split <;> simp_all
        rw [this, B.cell j]
        simpa using hj
      have hr := run_append_grow (P := P) w t ty e i z ht hi hz ⟨g, 0, none⟩ n cap (cur.toList.take (n * i.size)) hlo holds a m c news hl hnews (by omega) (by omega) (growslice_fits (by omega) (Nat.le_trans (Nat.mul_le_mul hb hby) (by omega)))
      have hge := grownCap_ge w (n + m) cap e
      refine ⟨_, _, _, _, hr, hge, Blk.new _ _ _, ?_, fun g' cap' h j hj => ?_, fun j hj => ?_, (Fr.drew (Fr.refl _ _)).alloc _, .inr rfl⟩
      · simp only [Array.size_append, List.size_toArray, size_zeroCells, hzs, hlo, hl, ← Nat.add_mul]
        congr 1
        omega
      · injection h with h
        injection h with h
        injection h with h
        subst h
        rw [B.cell j, Array.getElem?_append_left (by simp only [Array.size_append, List.size_toArray, hlo]; omega), Array.getElem?_append_left (by simp only [List.size_toArray, hlo]; omega)]
        simp [hj]
      · rw [Array.getElem?_append_left (by simp only [Array.size_append, List.size_toArray, hlo, hl]; omega), Array.getElem?_append_right (by simp only [List.size_toArray, hlo]; omega)]
        simp only [List.size_toArray, hlo, Nat.add_sub_cancel_left, List.getElem?_toArray]
end
end Go.Proofs.Ytkimldeagndgjaa

/- append in place at a step of a region; clear of a row of structs. No program stands in this text. -/
namespace Go.Proofs.Ytkimldeagndgjaa
set_option linter.unusedVariables false
set_option linter.unusedSimpArgs false
open Go.RowKit

section
variable {P : Program} (w : World)
theorem step_appRoom {ops : Array Oper} {o : Oper} {a : Act} {K : Act → World → Prop} {Q : Exit → Act → World → Prop} {E : Prop} (hgd : o.guard = none) (s x : Operand) (t e : TypeId)
    (ho : o.op = .call { callee := .builtin .append, args := #[s, x], argTypes := #[t, t] }) (i : TypeInfo) (ht : P.underlying t = some (.slice e)) (hi : P.info? e = some i)
    (g sLen sCap : Nat) (ad : Addr) (m c : Nat) (hs : a.eval s = .slice (some ⟨g, 0, none⟩) sLen sCap) (hx : a.eval x = .slice (some ad) m c) (cur : Array Value) (B : Blk w g e cur)
    (news : List Value) (hl : news.length = m * i.size) (hnews : ∀ j u, news[j]? = some u → w.cell? (ad.add j) = some u) (h1 : ∀ u ∈ news, u.oneCell' = true) (hroom : sLen + m ≤ sCap) (hfit : sLen * i.size + news.length ≤ cur.size)
    (h : ∀ w', Blk w' g e (cur.toList.take (sLen * i.size) ++ news ++ cur.toList.drop (sLen * i.size + news.length)).toArray → Fr [g] w w' → K (a.put o.dst (.slice (some ⟨g, 0, none⟩) (sLen + m) sCap)) w') :
    if Region.wanted o (yielded ops a.tmps) = true then Oper.wp P o a w K Q else E := by
  rw [if_pos (by simp [Region.wanted, hgd])]
  have hrun := run_append_room (P := P) w t o.type e i ht hi g sLen sCap cur B ad m c news hl hnews h1 hroom hfit
  unfold Oper.wp execOp
  simp only [ho, resolve, invoke, builtin, Sem.run_bind, Sem.run_pure, Result.andThen_ok, List.map_toArray, List.map_cons, List.map_nil, hs, hx, hrun]
  exact h _ (setRow_heap w g cur _ e _ B) ⟨rfl, rfl, rfl, by simp [World.setRow], fun k _ hk => setRow_other w g k _ (fun e => hk (by simp [e]))⟩

theorem run_clearS (t e ty : TypeId) (z : Value) (size : Nat) (ht : P.underlying t = some (.slice e)) (hv : ∀ w, (zeroValue e).run P w = .ok z w) (hz : z.cells.size = size) (h1 : ∀ u ∈ z.cells.toList, u.oneCell' = true)
    (g o n c : Nat) (hn : 0 < n) (cur : Array Value) (B : Blk w g e cur) (hfit : o + n * size ≤ cur.size) :
    ∃ zs : List Value, zs.length = n * size ∧ (Builtin.clear_ #[t] ty #[.slice (some ⟨g, o, none⟩) n c]).run P w = .ok (.tuple #[]) (w.setRow g (cur.toList.take o ++ zs ++ cur.toList.drop (o + zs.length)).toArray) := by
  have hl : (Builtin.zeroCells z.cells n).toList.length = n * size := by rw [Array.length_toList, size_zeroCells, hz]
  have hst := run_storeCells_at P g o e (Builtin.zeroCells z.cells n).toList 0 cur w B (by rw [hl]; omega) (by
    intro u hu
    rcases Nat.eq_zero_or_pos size with h0 | h0
    · rw [h0, Nat.mul_zero] at hl
      rw [List.eq_nil_of_length_eq_zero hl] at hu
      cases hu
    · simp only [Builtin.zeroCells, Array.toList_map, List.mem_map] at hu
      obtain ⟨k, _, rfl⟩ := hu
      have hk : k % z.cells.size < z.cells.size := Nat.mod_lt _ (by omega)
      refine h1 _ ?_
      simp [getElem!_def, hk])
  simp only [Nat.add_zero] at hst
  obtain ⟨m, rfl⟩ : ∃ m, n = m + 1 := ⟨n - 1, by omega⟩
  refine ⟨_, hl, ?_⟩
  simp [Builtin.clear_, run_underlying ht, hv, hst]

theorem wpList_clearS {ops : Array Oper} {rest : List Oper} {o : Oper} {a : Act} {Q : Exit → Act → World → Prop} (hgd : o.guard = none) (x : Operand) (t : TypeId)
    (ho : o.op = .call { callee := .builtin .clear, args := #[x], argTypes := #[t] })
    (e : TypeId) (z : Value) (size : Nat) (ht : P.underlying t = some (.slice e)) (hv : ∀ w, (zeroValue e).run P w = .ok z w) (hz : z.cells.size = size) (h1 : ∀ u ∈ z.cells.toList, u.oneCell' = true)
    (g off n c : Nat) (hx : a.eval x = .slice (some ⟨g, off, none⟩) n c) (hn : 0 < n) (cur : Array Value) (B : Blk w g e cur) (hfit : off + n * size ≤ cur.size)
    (h : ∀ w' new, Blk w' g e new → new.size = cur.size → (∀ j, j < off → new[j]? = cur[j]?) → Fr [g] w w' → wpList P ops Q rest (a.put o.dst (.tuple #[])) w') : wpList P ops Q (o :: rest) a w := by
  obtain ⟨zs, hzs, hrun⟩ := run_clearS (P := P) w t e o.type z size ht hv hz h1 g off n c hn cur B hfit
  refine wpList_plain hgd fun Kq hKq => ?_
  unfold Oper.wp execOp
  simp only [ho, resolve, invoke, builtin, Sem.run_bind, Sem.run_pure, Result.andThen_ok, List.map_toArray, List.map_cons, List.map_nil, hx, hrun]
  refine hKq _ _ (h _ _ (setRow_heap w g cur _ e _ B) ?_ (fun j hj => ?_) ⟨rfl, rfl, rfl, by simp [World.setRow], fun k _ hk => setRow_other w g k _ (fun e => hk (by simp [e]))⟩)
  · simp only [List.size_toArray, List.length_append, List.length_take, List.length_drop, Array.length_toList]
    omega
  · simp only [List.getElem?_toArray]
    rw [List.append_assoc, List.getElem?_append_left (by rw [List.length_take, Array.length_toList]; omega), List.getElem?_take_of_lt hj]
    simp
end
end Go.Proofs.Ytkimldeagndgjaa

/- Plain laws on the bits of int64. -/
namespace Go.Proofs.Ytkimldeagndgjaa
set_option linter.unusedVariables false
set_option linter.unusedSimpArgs false
open Go.RowKit

theorem ofInt_msb (x : Int) (h : -9223372036854775808 ≤ x ∧ x ≤ 9223372036854775807) : (BitVec.ofInt 64 x).msb = decide (x < 0) := by
  rw [BitVec.msb_eq_decide, BitVec.toNat_ofInt]
  by_cases c : x < 0
  · simp only [c, decide_true, decide_eq_true_eq]; omega
  · simp only [c, decide_false, decide_eq_false_iff_not]; omega
theorem wrap_neg (v : BitVec 64) : IntKind.i64.wrap (v.toNat : Int) < 0 ↔ v.msb = true := by
  rw [IntKind.wrap_i64, BitVec.msb_eq_decide]
  have := v.isLt
  simp only [decide_eq_true_eq]
  omega
theorem wrap_range (n : Int) : -9223372036854775808 ≤ IntKind.i64.wrap n ∧ IntKind.i64.wrap n ≤ 9223372036854775807 := by
  rw [IntKind.wrap_i64]; omega
theorem bits_and_range (x y : Int) : -9223372036854775808 ≤ bits .and .i64 x y ∧ bits .and .i64 x y ≤ 9223372036854775807 := wrap_range _
theorem bits_xor_range (x y : Int) : -9223372036854775808 ≤ bits .xor .i64 x y ∧ bits .xor .i64 x y ≤ 9223372036854775807 := wrap_range _
theorem bits_and_neg (x y : Int) (hx : -9223372036854775808 ≤ x ∧ x ≤ 9223372036854775807) (hy : -9223372036854775808 ≤ y ∧ y ≤ 9223372036854775807) : bits .and .i64 x y < 0 ↔ (x < 0 ∧ y < 0) := by
  show IntKind.i64.wrap ((BitVec.ofInt 64 x &&& BitVec.ofInt 64 y).toNat : Int) < 0 ↔ _
  rw [wrap_neg, BitVec.msb_and, ofInt_msb x hx, ofInt_msb y hy]; simp
theorem bits_xor_neg (x y : Int) (hx : -9223372036854775808 ≤ x ∧ x ≤ 9223372036854775807) (hy : -9223372036854775808 ≤ y ∧ y ≤ 9223372036854775807) : bits .xor .i64 x y < 0 ↔ ¬ (x < 0 ↔ y < 0) := by
  show IntKind.i64.wrap ((BitVec.ofInt 64 x ^^^ BitVec.ofInt 64 y).toNat : Int) < 0 ↔ _
  rw [wrap_neg, BitVec.msb_xor, ofInt_msb x hx, ofInt_msb y hy]
  by_cases a : x < 0 <;> by_cases b : y < 0 <;> simp [a, b]
/-- The sign that tells an overflow of a sum. -/
theorem add_bits (a b : Int) (ha : -9223372036854775808 ≤ a ∧ a ≤ 9223372036854775807) (hb : -9223372036854775808 ≤ b ∧ b ≤ 9223372036854775807) :
    bits .and .i64 (bits .xor .i64 a (wrap64 (a + b))) (bits .xor .i64 b (wrap64 (a + b))) < 0 ↔ ¬ (-9223372036854775808 ≤ a + b ∧ a + b ≤ 9223372036854775807) := by
  have hs : -9223372036854775808 ≤ wrap64 (a + b) ∧ wrap64 (a + b) ≤ 9223372036854775807 := by unfold wrap64; omega
  rw [bits_and_neg _ _ (bits_xor_range _ _) (bits_xor_range _ _), bits_xor_neg _ _ ha hs, bits_xor_neg _ _ hb hs]
  unfold wrap64
  omega
theorem and3 (x : Int) : bits .and .i64 x 3 = x % 4 := by
  show IntKind.i64.wrap ((BitVec.ofInt 64 x &&& BitVec.ofInt 64 3).toNat : Int) = _
  rw [BitVec.toNat_and, BitVec.toNat_ofInt, IntKind.wrap_i64]
  have e : (BitVec.ofInt 64 3).toNat = 2 ^ 2 - 1 := by decide
  rw [e, Nat.and_two_pow_sub_one_eq_mod]
  omega
theorem and1 (x : Int) : bits .and .i64 x 1 = x % 2 := by
  show IntKind.i64.wrap ((BitVec.ofInt 64 x &&& BitVec.ofInt 64 1).toNat : Int) = _
  rw [BitVec.toNat_and, BitVec.toNat_ofInt, IntKind.wrap_i64]
  have e : (BitVec.ofInt 64 1).toNat = 2 ^ 1 - 1 := by decide
  rw [e, Nat.and_two_pow_sub_one_eq_mod]
  omega
theorem nat_and2 (n : Nat) : n &&& 2 = n % 4 / 2 * 2 := by
  have h : n &&& 2 = (n % 4) &&& 2 := by
    have e : (2 : Nat) = 3 &&& 2 := by decide
    have e4 : n % 4 = n &&& 3 := by rw [show (3 : Nat) = 2 ^ 2 - 1 by decide, Nat.and_two_pow_sub_one_eq_mod]
    rw [e4, Nat.and_assoc]
    exact congrArg (n &&& ·) e
  rw [h]
  have h4 : n % 4 < 4 := Nat.mod_lt _ (by decide)
  generalize n % 4 = m at h4
  match m, h4 with
  | 0, _ => rfl
  | 1, _ => rfl
  | 2, _ => rfl
  | 3, _ => rfl
theorem and2 (x : Int) : bits .and .i64 x 2 = x % 4 / 2 * 2 := by
  show IntKind.i64.wrap ((BitVec.ofInt 64 x &&& BitVec.ofInt 64 2).toNat : Int) = _
  rw [BitVec.toNat_and, BitVec.toNat_ofInt, IntKind.wrap_i64]
  have e : (BitVec.ofInt 64 2).toNat = 2 := by decide
  rw [e, nat_and2]
  omega
end Go.Proofs.Ytkimldeagndgjaa

/- Package fix, walked: Add, Down, Up. -/
namespace Go.Proofs.Ytkimldeagndgjaa
set_option linter.unusedVariables false
set_option linter.unusedSimpArgs false
open Go.RowKit

def In64 (x : Int) : Prop := -9223372036854775808 ≤ x ∧ x ≤ 9223372036854775807
instance (x : Int) : Decidable (In64 x) := inferInstanceAs (Decidable (_ ∧ _))

theorem add_in (w : World) (a b : Int) (ha : In64 a) (hb : In64 b) (h : In64 (a + b)) :
    Calls Try.prog 104 #[.int .i64 a, .int .i64 b] w fun e w' => e = .returned (.tuple #[.int .i64 (a + b), .bool true]) ∧ w = w' := by
  unfold In64 at ha hb h
  have hw : wrap64 (a + b) = a + b := by unfold wrap64; omega
  have hk : ¬ bits .and .i64 (bits .xor .i64 a (a + b)) (bits .xor .i64 b (a + b)) < 0 := by
    have := add_bits a b ha hb
    rw [hw] at this
    rw [this]; omega
  clear hw
  go_enter Try.func104, Try.ntmps104
  go_wp2
  go_ret2
  exact ⟨rfl, rfl⟩

theorem add_out (w : World) (a b : Int) (ha : In64 a) (hb : In64 b) (h : ¬ In64 (a + b)) :
    Calls Try.prog 104 #[.int .i64 a, .int .i64 b] w fun e w' => e = .returned (.tuple #[.int .i64 0, .bool false]) ∧ w = w' := by
  have hk : bits .and .i64 (bits .xor .i64 a (wrap64 (a + b))) (bits .xor .i64 b (wrap64 (a + b))) < 0 := (add_bits a b ha hb).2 h
  clear ha hb h
  go_enter Try.func104, Try.ntmps104
  go_wp2
  go_ret2
  exact ⟨rfl, rfl⟩

def downI (p g : Int) : Int := if p < 0 ∨ g < 1 then 0 else p / g * g
theorem downI_bd {p g : Int} (h0 : 0 ≤ p) (h1 : 1 ≤ g) : 0 ≤ p / g * g ∧ p / g * g ≤ p ∧ p < p / g * g + g := by
  have e := Int.emod_add_mul_ediv p g
  have l := Int.emod_nonneg p (show g ≠ 0 by omega)
  have u := Int.emod_lt_of_pos p (show 0 < g by omega)
  have d := Int.ediv_nonneg h0 (show 0 ≤ g by omega)
  have m : g * (p / g) = p / g * g := Int.mul_comm _ _
  have n : 0 ≤ p / g * g := Int.mul_nonneg d (by omega)
  refine ⟨n, ?_, ?_⟩ <;> omega

theorem down_any (w : World) (p g : Int) (hp : In64 p) (hg : In64 g) :
    Calls Try.prog 121 #[.int .i64 p, .int .i64 g] w fun e w' => e = .returned (.int .i64 (downI p g)) ∧ w = w' := by
  unfold In64 at hp hg
  by_cases c : p < 0 ∨ g < 1
  · have hd : downI p g = 0 := by unfold downI; rw [if_pos c]
    rw [hd]
    clear hd
    rcases c with c | c
    all_goals
      go_enter Try.func121, Try.ntmps121
      go_wp2
      all_goals
        go_ret
        exact ⟨rfl, rfl⟩
  · have hd : downI p g = p / g * g := by unfold downI; rw [if_neg c]
    rw [hd]
    have h0 : 0 ≤ p := by omega
    have h1 : 1 ≤ g := by omega
    obtain ⟨d1, d2, _⟩ := downI_bd h0 h1
    clear hd c
    go_enter Try.func121, Try.ntmps121
    go_wp2
    go_ret
    exact ⟨rfl, rfl⟩
end Go.Proofs.Ytkimldeagndgjaa

/- Package fix, walked: Price. -/
namespace Go.Proofs.Ytkimldeagndgjaa
set_option linter.unusedVariables false
set_option linter.unusedSimpArgs false
open Go.RowKit

def priceI (p g : Int) : Int := if g < 1 then 1 else if p < 1 ∨ 1099511627776 < p then 9 else if downI p g = p then 0 else 8

theorem price_any (w : World) (p g : Int) (hp : In64 p) (hg : In64 g) :
    Calls Try.prog 62 #[.int .i64 p, .int .i64 g] w fun e w' => e = .returned (.int .i64 (priceI p g)) ∧ w = w' := by
  by_cases c1 : g < 1
  · have h : priceI p g = 1 := by unfold priceI; rw [if_pos c1]
    rw [h]; clear h hp hg
    go_enter Try.func62, Try.ntmps62
    go_wp2_with fail
    go_ret
    exact ⟨rfl, rfl⟩
  · by_cases c2 : p < 1 ∨ 1099511627776 < p
    · have h : priceI p g = 9 := by unfold priceI; rw [if_neg c1, if_pos c2]
      rw [h]; clear h hp hg
      rcases c2 with c2 | c2
      all_goals
        go_enter Try.func62, Try.ntmps62
        go_wp2_with fail
        go_ret
        exact ⟨rfl, rfl⟩
    · have c3 : 1 ≤ p := by omega
      have c4 : p ≤ 1099511627776 := by omega
      by_cases c5 : downI p g = p
      · have h : priceI p g = 0 := by unfold priceI; rw [if_neg c1, if_neg c2, if_pos c5]
        rw [h]
        have H5 := Lib.hid c5
        have HP := Lib.hid hp
        have HG := Lib.hid hg
        clear h hp hg c2 c5
        go_enter Try.func62, Try.ntmps62
        go_wp2_with fail
        refine (down_any _ p g HP.out HG.out).mono ?_
        rw [H5.out]
        rintro e w1 ⟨rfl, rfl⟩
        go_wp2_with fail
        go_ret
        exact ⟨rfl, rfl⟩
      · have h : priceI p g = 8 := by unfold priceI; rw [if_neg c1, if_neg c2, if_neg c5]
        rw [h]
        have h5 : (downI p g == p) = false := by simp [c5]
        have h6 : (downI p g != p) = true := by simp [c5]
        have HP := Lib.hid hp
        have HG := Lib.hid hg
        clear h hp hg c2 c5
        go_enter Try.func62, Try.ntmps62
        go_wp2_with fail
        refine (down_any _ p g HP.out HG.out).mono ?_
        rintro e w1 ⟨rfl, rfl⟩
        go_wp2_with fail
        go_ret
        exact ⟨rfl, rfl⟩

def pricedB (p : Int) : Bool := decide (1 ≤ p) && decide (p ≤ 1099511627776)
theorem priceI_one (p : Int) : (priceI p 1 == 0) = pricedB p := by
  unfold priceI pricedB
  rw [if_neg (by omega)]
  by_cases c : p < 1 ∨ 1099511627776 < p
  · rw [if_pos c]
    rcases c with c | c <;> simp <;> omega
  · have h : downI p 1 = p := by unfold downI; rw [if_neg (by omega)]; simp
    rw [if_neg c, if_pos h]
    simp; omega
end Go.Proofs.Ytkimldeagndgjaa

/- The ladder: its key, its search, its place. -/
namespace Go.Proofs.Ytkimldeagndgjaa
set_option linter.unusedVariables false
set_option linter.unusedSimpArgs false
open Go.RowKit

structure Lvl where
  price : Int
  qty : Int
  orders : Int
  queue : Int
deriving DecidableEq

def lvC (f : Nat → Lvl) (i j : Nat) : Value := .int .i64 (match j with | 0 => (f i).price | 1 => (f i).qty | 2 => (f i).orders | _ => (f i).queue)

abbrev BlkL (w : World) (lp : Nat) (side most : Int) (v : Value) (u : Nat → Nat) : Prop :=
  Blk w lp 204 #[.int .i64 side, .int .i64 most, v, .int .u64 (u 0 : Int), .int .u64 (u 1 : Int), .int .u64 (u 2 : Int), .int .u64 (u 3 : Int)]

/-- Levels in memory. -/
def RowL (w : World) (v : Value) (n : Nat) (f : Nat → Lvl) : Prop :=
  (v = .slice none 0 0 ∧ n = 0) ∨ ∃ lb cap cur, v = .slice (some ⟨lb, 0, none⟩) n cap ∧ n ≤ cap ∧ Blk w lb 159 cur ∧ cur.size = cap * 4 ∧ ∀ i j, i < n → j < 4 → cur[i * 4 + j]? = some (lvC f i j)

theorem lvl_at {w : World} {lb n : Nat} {cur : Array Value} {f : Nat → Lvl} (B : Blk w lb 159 cur) (hc : ∀ i j, i < n → j < 4 → cur[i * 4 + j]? = some (lvC f i j)) {i : Nat} (hi : i < n) {j : Nat} (hj : j < 4) : w.cell? ⟨lb, i * 4 + j, none⟩ = some (lvC f i j) := (B.cell _).trans (hc i j hi hj)
theorem lvl_at0 {w : World} {lb n : Nat} {cur : Array Value} {f : Nat → Lvl} (B : Blk w lb 159 cur) (hc : ∀ i j, i < n → j < 4 → cur[i * 4 + j]? = some (lvC f i j)) {i : Nat} (hi : i < n) : w.cell? ⟨lb, i * 4, none⟩ = some (lvC f i 0) := by
  have := lvl_at B hc hi (show 0 < 4 by omega)
  simpa using this
def keyI (side p : Int) : Int := if side = 0 then -p else p
def In63 (p : Int) : Prop := -9223372036854775807 ≤ p ∧ p ≤ 9223372036854775807

theorem key_any (w : World) (lp : Nat) (side most : Int) (v : Value) (u : Nat → Nat) (h : BlkL w lp side most v u) (p : Int) (hp : In63 p) :
    Calls Try.prog 145 #[.pointer (some ⟨lp, 0, none⟩), .int .i64 p] w fun e w' => e = .returned (.int .i64 (keyI side p)) ∧ w = w' := by
  have c := h.cell
  have p1 := hp.1
  have p2 := hp.2
  by_cases hs : side = 0
  · subst hs
    go_enter Try.func145, Try.ntmps145
    go_wp2_with fail
    go_ret
    exact ⟨ret_int (by simp [keyI]), rfl⟩
  · have hs' : (side == 0) = false := by simpa using hs
    go_enter Try.func145, Try.ntmps145
    go_wp2_with fail
    go_ret
    exact ⟨ret_int (by simp [keyI, hs]), rfl⟩

def cmpI (a b : Int) : Int := if a < b then -1 else if b < a then 1 else 0

theorem place1_any (w : World) (lp bx : Nat) (side most : Int) (v : Value) (u : Nat → Nat) (h : BlkL w lp side most v u) (hx : Blk w bx 174 #[.func (.func 145) #[.pointer (some ⟨lp, 0, none⟩)] #[]])
    (p q o z k : Int) (hp : In63 p) :
    Calls Try.prog 163 #[.agg #[.int .i64 p, .int .i64 q, .int .i64 o, .int .i64 z], .int .i64 k, .pointer (some ⟨bx, 0, none⟩)] w fun e w' => e = .returned (.int .i64 (cmpI (keyI side p) k)) ∧ Fr [] w w' := by
  have HK := Lib.hid (fun w' (hf : Fr [] w w') => key_any w' lp side most v u (Blk.via hf (by simp) h) p hp)
  have c : w.cell? ⟨bx, 0, none⟩ = some (.func (.func 145) #[.pointer (some ⟨lp, 0, none⟩)] #[]) := (hx.cell 0).trans rfl
  have lx := hx.lt
  generalize keyI side p = a at HK ⊢
  rcases (show a < k ∨ (¬ a < k ∧ k < a) ∨ (¬ a < k ∧ ¬ k < a) by omega) with h1 | ⟨h1, h2⟩ | ⟨h1, h2⟩
  all_goals
    go_enter Try.func163, Try.ntmps163
    go_wp2_with fail
    refine (HK.out _ (by with_reducible repeat (first | exact Fr.refl _ _ | assumption | apply Fr.drew | apply Fr.drewN | apply Fr.alloc | (apply Fr.step; assumption; (intro _ h; (first | exact h | (focus (simp_all; done))))) | (apply Fr.setIn; (first | exact List.mem_cons_self | exact List.mem_cons_of_mem _ List.mem_cons_self | exact List.mem_cons_of_mem _ (List.mem_cons_of_mem _ List.mem_cons_self) | exact List.mem_cons_of_mem _ (List.mem_cons_of_mem _ (List.mem_cons_of_mem _ List.mem_cons_self)))) | (apply Fr.setNew; (first | omega | (simp; omega)))))).mono ?_
    rintro e w' ⟨rfl, rfl⟩
    go_wp2_with fail
    go_ret
    exact ⟨ret_int (by simp [cmpI]; omega), by with_reducible repeat (first | exact Fr.refl _ _ | assumption | apply Fr.drew | apply Fr.drewN | apply Fr.alloc | (apply Fr.step; assumption; (intro _ h; (first | exact h | (focus (simp_all; done))))) | (apply Fr.setIn; (first | exact List.mem_cons_self | exact List.mem_cons_of_mem _ List.mem_cons_self | exact List.mem_cons_of_mem _ (List.mem_cons_of_mem _ List.mem_cons_self) | exact List.mem_cons_of_mem _ (List.mem_cons_of_mem _ (List.mem_cons_of_mem _ List.mem_cons_self)))) | (apply Fr.setNew; (first | omega | (simp; omega))))⟩

/-- What the search says. -/
def Placed (side : Int) (n : Nat) (f : Nat → Lvl) (p : Int) (i : Nat) : Prop :=
  i ≤ n ∧ (∀ j, j < i → keyI side (f j).price < keyI side p) ∧ (∀ j, i ≤ j → j < n → keyI side p ≤ keyI side (f j).price)

set_option maxHeartbeats 4000000 in
set_option maxRecDepth 100000 in
theorem search_any (w : World) (lp bx : Nat) (side most : Int) (v : Value) (u : Nat → Nat) (n : Nat) (f : Nat → Lvl) (h : BlkL w lp side most v u) (hr : RowL w v n f) (hx : Blk w bx 174 #[.func (.func 145) #[.pointer (some ⟨lp, 0, none⟩)] #[]])
    (hn : n ≤ 1000) (hp : ∀ i, i < n → In63 (f i).price) (hs : ∀ i j, i < j → j < n → keyI side (f i).price < keyI side (f j).price) (p : Int) :
    Calls Try.prog 162 #[v, .int .i64 (keyI side p), .func (.func 163) #[] #[.pointer (some ⟨bx, 0, none⟩)]] w fun e w' => ∃ i : Nat, e = .returned (.tuple #[.int .i64 i, .bool (decide (i < n) && decide (keyI side (f i).price = keyI side p))]) ∧ Fr [] w w' ∧ Placed side n f p i := by
  have HP := Lib.hid hp
  have HS := Lib.hid hs
  clear hp hs
  have hv : ∃ A cap, v = .slice A n cap := by
    rcases hr with ⟨rfl, rfl⟩ | ⟨lb, cap, cur, rfl, _⟩
    · exact ⟨_, _, rfl⟩
    · exact ⟨_, _, rfl⟩
  obtain ⟨A, cap, rfl⟩ := hv
  have HR := Lib.hid hr
  have hn' : (n : Int) ≤ 1000 := by omega
  clear hr
  generalize hk : keyI side p = k
  have HKK := Lib.hid hk
  clear hk
  go_enter Try.func162, Try.ntmps162
  go_wp2_with fail
  go_loopw [9, 10] (fun s9 s10 wr => ∃ i j : Nat, s9 = .int .i64 i ∧ s10 = .int .i64 j ∧ i ≤ j ∧ j ≤ n ∧ Fr [] w wr ∧ (∀ a, a < i → keyI side (f a).price < k) ∧ (∀ a, j ≤ a → a < n → k ≤ keyI side (f a).price)) (fun s9 s10 _ => (intOf s10).toNat - (intOf s9).toNat)
  case atStart => exact ⟨0, n, rfl, rfl, by omega, by omega, Fr.refl _ _, fun a h => by omega, fun a h1 h2 => by omega⟩
  case round =>
    obtain ⟨i, j, rfl, rfl, hij, hjn, F, hlo, hhi⟩ := hrel
    have HLO := Lib.hid hlo
    have HHI := Lib.hid hhi
    clear hlo hhi
    by_cases hlt : i < j
    · have i1 : (i : Int) < (j : Int) := by omega
      obtain ⟨h0, _⟩ | ⟨lb, cap', cur, e, hnc, hB, hcs, hcur⟩ := HR.out
      · injection h0; omega
      injection e with e1 _ e2
      subst e1; subst e2
      have hm : (i + j) / 2 < cap := by omega
      have Bw := Blk.via F (by simp) hB
      have hmn : (i + j) / 2 < n := by omega
      have m0 := lvl_at0 Bw hcur hmn
      have m1 := lvl_at Bw hcur hmn (show 1 < 4 by omega)
      have m2 := lvl_at Bw hcur hmn (show 2 < 4 by omega)
      have m3 := lvl_at Bw hcur hmn (show 3 < 4 by omega)
      simp only [lvC] at m0 m1 m2 m3
      clear hcur hcs
      have hc := fun q => place1_any wr lp bx side most _ u (Blk.via F (by simp) h) (Blk.via F (by simp) hx) (f ((i + j) / 2)).price (f ((i + j) / 2)).qty (f ((i + j) / 2)).orders (f ((i + j) / 2)).queue q (HP.out _ hmn)
      have HC := Lib.hid hc
      clear hc hB Bw
      rcases (show keyI side (f ((i + j) / 2)).price < k ∨ k ≤ keyI side (f ((i + j) / 2)).price by omega) with hcm | hcm
      · have hcv : ∀ q, q = k → cmpI (keyI side (f ((i + j) / 2)).price) q = -1 := fun q e => by subst e; simp [cmpI, hcm]
        have HCV := Lib.hid hcv
        clear hcv
        go_wp2_with fail
        refine (HC.out k).mono ?_
        rintro e w1 ⟨rfl, F1⟩
        rw [HCV.out k rfl]
        have F2 := F.trans F1
        go_wp2_with fail
        go_roundw
        case rel =>
          refine ⟨(i + j) / 2 + 1, j, by rw [show ((i : Int) + (j : Int)) / 2 + 1 = (((i + j) / 2 + 1 : Nat) : Int) by omega], rfl, by omega, hjn, F2, fun a ha => ?_, HHI.out⟩
          by_cases c : a = (i + j) / 2
          · rw [c]; exact hcm
          · have := HS.out a ((i + j) / 2) (by omega) hmn; omega
        case measure => simp [intOf]; omega
      · have hcv : ∀ q, q = k → 0 ≤ cmpI (keyI side (f ((i + j) / 2)).price) q := fun q e => by subst e; simp only [cmpI]; split <;> (try split) <;> omega
        have hcv := hcv k rfl
        go_wp2_with fail
        refine (HC.out k).mono ?_
        rintro e w1 ⟨rfl, F1⟩
        generalize cmpI (keyI side (f ((i + j) / 2)).price) k = cc at hcv ⊢
        have F2 := F.trans F1
        go_wp2_with fail
        go_roundw
        case rel =>
          refine ⟨i, (i + j) / 2, rfl, by rw [show ((i : Int) + (j : Int)) / 2 = (((i + j) / 2 : Nat) : Int) by omega], by omega, by omega, F2, HLO.out, fun a h1 h2 => ?_⟩
          by_cases c : a = (i + j) / 2
          · rw [c]; exact hcm
          · have := HS.out ((i + j) / 2) a (by omega) h2; omega
        case measure => simp [intOf]; omega
    · obtain rfl : i = j := by omega
      by_cases hin : i < n
      · have i1 : (i : Int) < (n : Int) := by omega
        obtain ⟨h0, _⟩ | ⟨lb, cap', cur, e, hnc, hB, hcs, hcur⟩ := HR.out
        · injection h0; omega
        injection e with e1 _ e2
        subst e1; subst e2
        have hm : i < cap := by omega
        have Bw := Blk.via F (by simp) hB
        have m0 := lvl_at0 Bw hcur hin
        have m1 := lvl_at Bw hcur hin (show 1 < 4 by omega)
        have m2 := lvl_at Bw hcur hin (show 2 < 4 by omega)
        have m3 := lvl_at Bw hcur hin (show 3 < 4 by omega)
        simp only [lvC] at m0 m1 m2 m3
        clear hcur hcs
        have hc := fun q => place1_any wr lp bx side most _ u (Blk.via F (by simp) h) (Blk.via F (by simp) hx) (f i).price (f i).qty (f i).orders (f i).queue q (HP.out _ hin)
        have HC := Lib.hid hc
        clear hc hB Bw
        have hle := HHI.out i (by omega) hin
        go_wp2_with fail
        refine (HC.out k).mono ?_
        rintro e w1 ⟨rfl, F1⟩
        have F2 := F.trans F1
        generalize hcc : cmpI (keyI side (f i).price) k = cc
        have HCC := Lib.hid hcc
        clear hcc
        go_wp2_with fail
        go_ret2
        have hb : (cc == 0) = (decide (i < n) && decide (keyI side (f i).price = k)) := by
          rw [← HCC.out]
          by_cases c : keyI side (f i).price = k
          · simp [cmpI, c, hin]
          · have : k < keyI side (f i).price := by omega
            simp [cmpI, hin, c]
            omega
        exact ⟨i, by rw [← hb]; rfl, F2, by omega, fun a ha => by rw [HKK.out]; exact HLO.out a ha, fun a h1 h2 => by rw [HKK.out]; exact HHI.out a h1 h2⟩
      · have i1 : ¬ (i : Int) < (n : Int) := by omega
        go_wp2_with fail
        go_ret2
        have hb : (decide (i < n) && decide (keyI side (f i).price = k)) = false := by simp [hin]
        exact ⟨i, by rw [hb]; rfl, F, by omega, fun a ha => by rw [HKK.out]; exact HLO.out a ha, fun a h1 h2 => by rw [HKK.out]; exact HHI.out a h1 h2⟩

theorem RowL.via {S : List Nat} {w w' : World} {v : Value} {n : Nat} {f : Nat → Lvl} (hf : Fr S w w') (hS : ∀ g, v.ownBlock = some g → g ∉ S) (h : RowL w v n f) : RowL w' v n f := by
  rcases h with h | ⟨lb, cap, cur, rfl, h1, B, h2, h3⟩
  · exact .inl h
  · exact .inr ⟨lb, cap, cur, rfl, h1, Blk.via hf (hS lb rfl) B, h2, h3⟩

theorem place_any (w : World) (lp : Nat) (side most : Int) (v : Value) (u : Nat → Nat) (n : Nat) (f : Nat → Lvl) (h : BlkL w lp side most v u) (hr : RowL w v n f)
    (hn : n ≤ 1000) (hp : ∀ i, i < n → In63 (f i).price) (hs : ∀ i j, i < j → j < n → keyI side (f i).price < keyI side (f j).price) (p : Int) (hpp : In63 p) :
    Calls Try.prog 132 #[.pointer (some ⟨lp, 0, none⟩), .int .i64 p] w fun e w' => ∃ i : Nat, e = .returned (.tuple #[.int .i64 i, .bool (decide (i < n) && decide (keyI side (f i).price = keyI side p))]) ∧ Fr [] w w' ∧ Placed side n f p i := by
  have hmf : ∀ (fn : Fn) (first cap : Array Value) (w : World), (Instr.makeFunc fn first cap).run Try.prog w = .ok (.func fn first cap) w := fun _ _ _ _ => rfl
  have hst : ∀ (a : Addr) (fn : Fn) (first cap : Array Value) (w : World), (store a (.func fn first cap)).run Try.prog w = stored Try.prog w a (.func fn first cap) .plain := fun a fn first cap w => run_store Try.prog w a _ .plain rfl
  have HS := Lib.hid (fun (w' : World) (bx : Nat) (F : Fr [] w w') hx => search_any w' lp bx side most v u n f (Blk.via F (by simp) h) (hr.via F (by simp)) hx hn hp hs p)
  have HKY := Lib.hid (fun (w' : World) (F : Fr [] w w') => key_any w' lp side most v u (Blk.via F (by simp) h) p hpp)
  have c : w.cell? ⟨lp, 2, none⟩ = some v := (h.cell 2).trans rfl
  have l := h.lt
  clear hp hs hr
  go_enter Try.func132, Try.ntmps132
  go_wp2_with fail
  generalize hu : w.alloc (.cells #[.func (.func 145) #[.pointer (some ⟨lp, 0, none⟩)] #[]] 174) = w0
  have F0 : Fr [] w w0 := by rw [← hu]; with_reducible repeat (first | exact Fr.refl _ _ | assumption | apply Fr.drew | apply Fr.drewN | apply Fr.alloc | (apply Fr.step; assumption; (intro _ h; (first | exact h | (focus (simp_all; done))))) | (apply Fr.setIn; (first | exact List.mem_cons_self | exact List.mem_cons_of_mem _ List.mem_cons_self | exact List.mem_cons_of_mem _ (List.mem_cons_of_mem _ List.mem_cons_self) | exact List.mem_cons_of_mem _ (List.mem_cons_of_mem _ (List.mem_cons_of_mem _ List.mem_cons_self)))) | (apply Fr.setNew; (first | omega | (simp; omega))))
  have X0 : Blk w0 w.heap.size 174 #[.func (.func 145) #[.pointer (some ⟨lp, 0, none⟩)] #[]] := by rw [← hu]; exact Blk.new _ _ _
  have hSof : ∀ w', Fr [] w0 w' → w'.cell? ⟨lp, 2, none⟩ = some v ∧ w'.cell? ⟨w.heap.size, 0, none⟩ = some (.func (.func 145) #[.pointer (some ⟨lp, 0, none⟩)] #[]) :=
    fun w' F => ⟨((Blk.via (F0.trans F) (by simp) h).cell 2).trans rfl, ((Blk.via F (by simp) X0).cell 0).trans rfl⟩
  clear hu
  refine u_region (S := fun w' => w'.cell? ⟨lp, 2, none⟩ = some v ∧ w'.cell? ⟨w.heap.size, 0, none⟩ = some (.func (.func 145) #[.pointer (some ⟨lp, 0, none⟩)] #[])) 12 (by kernel_rfl) (by kernel_rfl) (by kernel_rfl) (by kernel_rfl) (by kernel_rfl) (hSof _ (Fr.drew (Fr.refl _ _))) ?_
  (refine u_take 0 (v := ?_) rfl rfl (by kernel_rfl) (by kernel_rfl) (fun _ _ _ h => h) (Or.inl ⟨by rfl, ?_⟩) ?_; rotate_left; (focus (intro wz hSw; (try dsimp only at hSw); go_simp; (try with_reducible rfl))); (try simp only [Act.put, List.getElem_toArray, List.getElem_cons_succ, List.getElem_cons_zero, List.setIfInBounds_toArray, List.set_cons_zero, List.set_cons_succ]))
  (refine u_take 1 (v := ?_) rfl rfl (by kernel_rfl) (by kernel_rfl) (fun _ _ _ h => h) (Or.inl ⟨by rfl, ?_⟩) ?_; rotate_left; (focus (intro wz hSw; (try dsimp only at hSw); go_simp; (try with_reducible rfl))); (try simp only [Act.put, List.getElem_toArray, List.getElem_cons_succ, List.getElem_cons_zero, List.setIfInBounds_toArray, List.set_cons_zero, List.set_cons_succ]))
  (refine u_take 2 (v := ?_) rfl rfl (by kernel_rfl) (by kernel_rfl) (fun _ _ _ h => h) (Or.inl ⟨by rfl, ?_⟩) ?_; rotate_left; (focus (intro wz hSw; (try dsimp only at hSw); go_simp; (try with_reducible rfl))); (try simp only [Act.put, List.getElem_toArray, List.getElem_cons_succ, List.getElem_cons_zero, List.setIfInBounds_toArray, List.set_cons_zero, List.set_cons_succ]))
  (refine u_take 3 (v := ?_) rfl rfl (by kernel_rfl) (by kernel_rfl) (fun _ _ _ h => h) (Or.inl ⟨by rfl, ?_⟩) ?_; rotate_left; (focus (intro wz hSw; (try dsimp only at hSw); go_simp; (try with_reducible rfl))); (try simp only [Act.put, List.getElem_toArray, List.getElem_cons_succ, List.getElem_cons_zero, List.setIfInBounds_toArray, List.set_cons_zero, List.set_cons_succ]))
  (refine u_take 4 (v := ?_) rfl rfl (by kernel_rfl) (by kernel_rfl) (fun _ _ _ h => h) (Or.inl ⟨by rfl, ?_⟩) ?_; rotate_left; (focus (intro wz hSw; (try dsimp only at hSw); go_simp; (try with_reducible rfl))); (try simp only [Act.put, List.getElem_toArray, List.getElem_cons_succ, List.getElem_cons_zero, List.setIfInBounds_toArray, List.set_cons_zero, List.set_cons_succ]))
  (refine u_take 5 (v := ?_) rfl rfl (by kernel_rfl) (by kernel_rfl) (fun _ _ _ h => h) (Or.inl ⟨by rfl, ?_⟩) ?_; rotate_left; (focus (intro wz hSw; (try dsimp only at hSw); go_simp; (try with_reducible rfl))); (try simp only [Act.put, List.getElem_toArray, List.getElem_cons_succ, List.getElem_cons_zero, List.setIfInBounds_toArray, List.set_cons_zero, List.set_cons_succ]))
  (refine u_take 7 (v := ?_) rfl rfl (by kernel_rfl) (by kernel_rfl) (fun _ _ _ h => h) (Or.inl ⟨by rfl, ?_⟩) ?_; rotate_left; (focus (intro wz hSw; (try dsimp only at hSw); go_simp; (try with_reducible rfl))); (try simp only [Act.put, List.getElem_toArray, List.getElem_cons_succ, List.getElem_cons_zero, List.setIfInBounds_toArray, List.set_cons_zero, List.set_cons_succ]))
  refine u_one 6 (by kernel_rfl) rfl rfl (fun Kq hKq => ?_)
  go_simp
  refine (HKY.out _ (F0.drew)).mono ?_
  rintro e w1 ⟨rfl, rfl⟩
  refine hKq _ _ (hSof _ (Fr.drew (Fr.refl _ _))) ?_
  clear hKq Kq
  (try simp only [Act.put, List.getElem_toArray, List.getElem_cons_succ, List.getElem_cons_zero, List.setIfInBounds_toArray, List.set_cons_zero, List.set_cons_succ])
  refine u_one 8 (by kernel_rfl) rfl rfl (fun Kq hKq => ?_)
  go_simp
  refine (HS.out _ _ (F0.drew) X0.drew).mono ?_
  rintro e w2 ⟨i, rfl, F2, hpl⟩
  have F3 : Fr [] w0 w2 := (Fr.drew (Fr.refl [] w0)).trans F2
  refine hKq _ _ (hSof _ F3) ?_
  clear hKq Kq
  (try simp only [Act.put, List.getElem_toArray, List.getElem_cons_succ, List.getElem_cons_zero, List.setIfInBounds_toArray, List.set_cons_zero, List.set_cons_succ])
  (refine u_take 9 (v := ?_) rfl rfl (by kernel_rfl) (by kernel_rfl) (fun _ _ _ h => h) (Or.inl ⟨by rfl, ?_⟩) ?_; rotate_left; (focus (intro wz hSw; (try dsimp only at hSw); go_simp; (try with_reducible rfl))); (try simp only [Act.put, List.getElem_toArray, List.getElem_cons_succ, List.getElem_cons_zero, List.setIfInBounds_toArray, List.set_cons_zero, List.set_cons_succ]))
  (refine u_take 10 (v := ?_) rfl rfl (by kernel_rfl) (by kernel_rfl) (fun _ _ _ h => h) (Or.inl ⟨by rfl, ?_⟩) ?_; rotate_left; (focus (intro wz hSw; (try dsimp only at hSw); go_simp; (try with_reducible rfl))); (try simp only [Act.put, List.getElem_toArray, List.getElem_cons_succ, List.getElem_cons_zero, List.setIfInBounds_toArray, List.set_cons_zero, List.set_cons_succ]))
  (refine u_take 11 (v := ?_) rfl rfl (by kernel_rfl) (by kernel_rfl) (fun _ _ _ h => h) (Or.inl ⟨by rfl, ?_⟩) ?_; rotate_left; (focus (intro wz hSw; (try dsimp only at hSw); go_simp; (try with_reducible rfl))); (try simp only [Act.put, List.getElem_toArray, List.getElem_cons_succ, List.getElem_cons_zero, List.setIfInBounds_toArray, List.set_cons_zero, List.set_cons_succ]))
  refine u_last (by kernel_rfl) rfl (by kernel_rfl) ?_
  go_wp2_with fail
  go_ret2
  exact ⟨i, rfl, F0.trans F3, hpl⟩
end Go.Proofs.Ytkimldeagndgjaa

/- The ladder: New, Len, Best, Find, Fits. -/
namespace Go.Proofs.Ytkimldeagndgjaa
set_option linter.unusedVariables false
set_option linter.unusedSimpArgs false
open Go.RowKit

/-- A ladder in memory: the levels f 0 .. f (n - 1), the best one first. -/
structure LadR (w : World) (lp : Nat) (side most : Int) (v : Value) (u : Nat → Nat) (n : Nat) (f : Nat → Lvl) : Prop where
  b : BlkL w lp side most v u
  r : RowL w v n f
  hside : side = 0 ∨ side = 1
  hmost : 1 ≤ most ∧ most ≤ 200
  hn : (n : Int) ≤ most
  price : ∀ i, i < n → 1 ≤ (f i).price ∧ (f i).price ≤ 9223372036854775807
  sorted : ∀ i j, i < j → j < n → keyI side (f i).price < keyI side (f j).price

theorem LadR.in63 {w : World} {lp : Nat} {side most : Int} {v : Value} {u : Nat → Nat} {n : Nat} {f : Nat → Lvl} (h : LadR w lp side most v u n f) : ∀ i, i < n → In63 (f i).price := fun i hi => by
  have := h.price i hi
  unfold In63
  omega
theorem LadR.form {w : World} {lp : Nat} {side most : Int} {v : Value} {u : Nat → Nat} {n : Nat} {f : Nat → Lvl} (h : LadR w lp side most v u n f) : ∃ A cap, v = .slice A n cap := by
  rcases h.r with ⟨rfl, rfl⟩ | ⟨lb, cap, cur, rfl, _⟩
  · exact ⟨_, _, rfl⟩
  · exact ⟨_, _, rfl⟩
theorem LadR.fr {S : List Nat} {w w' : World} {lp : Nat} {side most : Int} {v : Value} {u : Nat → Nat} {n : Nat} {f : Nat → Lvl} (hf : Fr S w w') (h1 : lp ∉ S) (h2 : ∀ g, v.ownBlock = some g → g ∉ S) (h : LadR w lp side most v u n f) : LadR w' lp side most v u n f :=
  ⟨Blk.via hf h1 h.b, h.r.via hf h2, h.hside, h.hmost, h.hn, h.price, h.sorted⟩
theorem LadR.find {w : World} {lp : Nat} {side most : Int} {v : Value} {u : Nat → Nat} {n : Nat} {f : Nat → Lvl} (h : LadR w lp side most v u n f) (p : Int) (hp : In63 p) :
    Calls Try.prog 132 #[.pointer (some ⟨lp, 0, none⟩), .int .i64 p] w fun e w' => ∃ i : Nat, e = .returned (.tuple #[.int .i64 i, .bool (decide (i < n) && decide (keyI side (f i).price = keyI side p))]) ∧ Fr [] w w' ∧ Placed side n f p i :=
  place_any w lp side most v u n f h.b h.r (by have := h.hn; have := h.hmost; omega) h.in63 h.sorted p hp

theorem ladNew_yes (w : World) (side most : Int) (hs : side = 0 ∨ side = 1) (hm : 1 ≤ most ∧ most ≤ 200) :
    Calls Try.prog 81 #[.int .i64 side, .int .i64 most] w fun e w' => ∃ lp, w.heap.size ≤ lp ∧ e = .returned (.tuple #[.pointer (some ⟨lp, 0, none⟩), .int .i64 0]) ∧ Fr [] w w' ∧ LadR w' lp side most (.slice none 0 0) (fun _ => 0) 0 (fun _ => ⟨0, 0, 0, 0⟩) := by
  have m1 := hm.1
  have m2 := hm.2
  rcases hs with rfl | rfl
  all_goals
    go_enter Try.func81, Try.ntmps81
    go_wp2_with fail
    go_ret2
    refine ⟨w.heap.size, Nat.le_refl _, rfl, by with_reducible repeat (first | exact Fr.refl _ _ | assumption | apply Fr.drew | apply Fr.drewN | apply Fr.alloc | (apply Fr.step; assumption; (intro _ h; (first | exact h | (focus (simp_all; done))))) | (apply Fr.setIn; (first | exact List.mem_cons_self | exact List.mem_cons_of_mem _ List.mem_cons_self | exact List.mem_cons_of_mem _ (List.mem_cons_of_mem _ List.mem_cons_self) | exact List.mem_cons_of_mem _ (List.mem_cons_of_mem _ (List.mem_cons_of_mem _ List.mem_cons_self)))) | (apply Fr.setNew; (first | omega | (simp; omega)))), ?_⟩
    exact ⟨Blk.new _ _ _, .inl ⟨rfl, rfl⟩, by omega, hm, by omega, fun i hi => by omega, fun i j h1 h2 => by omega⟩

theorem ladLen_any (w : World) (lp : Nat) (side most : Int) (v : Value) (u : Nat → Nat) (n : Nat) (f : Nat → Lvl) (h : LadR w lp side most v u n f) :
    Calls Try.prog 140 #[.pointer (some ⟨lp, 0, none⟩)] w fun e w' => e = .returned (.int .i64 n) ∧ w = w' := by
  obtain ⟨A, cap, rfl⟩ := h.form
  have c := h.b.cell
  go_enter Try.func140, Try.ntmps140
  go_wp2_with fail
  go_ret
  exact ⟨rfl, rfl⟩
theorem ladLen_nil (w : World) :
    Calls Try.prog 140 #[.pointer none] w fun e w' => e = .returned (.int .i64 0) ∧ w = w' := by
  go_enter Try.func140, Try.ntmps140
  go_wp2_with fail
  go_ret
  exact ⟨rfl, rfl⟩

def lvV (x : Lvl) : Value := .agg #[.int .i64 x.price, .int .i64 x.qty, .int .i64 x.orders, .int .i64 x.queue]

/-- The cells of level i. -/
theorem LadR.lv {w : World} {lp : Nat} {side most : Int} {v : Value} {u : Nat → Nat} {n : Nat} {f : Nat → Lvl} (h : LadR w lp side most v u n f) {i : Nat} (hi : i < n) :
    ∃ lb cap cur, v = .slice (some ⟨lb, 0, none⟩) n cap ∧ n ≤ cap ∧ Blk w lb 159 cur ∧ w.cell? ⟨lb, i * 4, none⟩ = some (.int .i64 (f i).price) ∧ w.cell? ⟨lb, i * 4 + 1, none⟩ = some (.int .i64 (f i).qty) ∧
      w.cell? ⟨lb, i * 4 + 2, none⟩ = some (.int .i64 (f i).orders) ∧ w.cell? ⟨lb, i * 4 + 3, none⟩ = some (.int .i64 (f i).queue) := by
  rcases h.r with ⟨_, rfl⟩ | ⟨lb, cap, cur, rfl, h1, B, h2, h3⟩
  · omega
  · exact ⟨lb, cap, cur, rfl, h1, B, lvl_at0 B h3 hi, lvl_at B h3 hi (by omega), lvl_at B h3 hi (by omega), lvl_at B h3 hi (by omega)⟩

theorem best_yes (w : World) (lp : Nat) (side most : Int) (v : Value) (u : Nat → Nat) (n : Nat) (f : Nat → Lvl) (h : LadR w lp side most v u n f) (hn : 0 < n) :
    Calls Try.prog 93 #[.pointer (some ⟨lp, 0, none⟩)] w fun e w' => e = .returned (.tuple #[lvV (f 0), .bool true]) ∧ Fr [] w w' := by
  have HL := Lib.hid (fun w' (F : Fr [] w w') => ladLen_any w' lp side most v u n f (h.fr F (by simp) (by simp)))
  have c : w.cell? ⟨lp, 2, none⟩ = some v := (h.b.cell 2).trans rfl
  have l := h.b.lt
  obtain ⟨lb, cap, cur, rfl, hnc, B, m0, m1, m2, m3⟩ := h.lv hn
  have lB := B.lt
  have n1 : (0 : Int) < (n : Int) := by omega
  have nz : ((n : Int) == 0) = false := by simp; omega
  have f0 := B.frozen
  rw [Nat.zero_mul] at m0 m1 m2 m3
  rw [Nat.zero_add] at m1 m2 m3
  clear h
  go_enter Try.func93, Try.ntmps93
  go_wp2_with fail
  refine (HL.out _ (by with_reducible repeat (first | exact Fr.refl _ _ | assumption | apply Fr.drew | apply Fr.drewN | apply Fr.alloc | (apply Fr.step; assumption; (intro _ h; (first | exact h | (focus (simp_all; done))))) | (apply Fr.setIn; (first | exact List.mem_cons_self | exact List.mem_cons_of_mem _ List.mem_cons_self | exact List.mem_cons_of_mem _ (List.mem_cons_of_mem _ List.mem_cons_self) | exact List.mem_cons_of_mem _ (List.mem_cons_of_mem _ (List.mem_cons_of_mem _ List.mem_cons_self)))) | (apply Fr.setNew; (first | omega | (simp; omega)))))).mono ?_
  rintro e w1 ⟨rfl, rfl⟩
  go_wp2_with fail
  exact bodyPost_ret (v := .tuple #[lvV (f 0), .bool true]) (by simp [results, Try.results93, go_sem, lvV]) rfl ⟨rfl, by with_reducible repeat (first | exact Fr.refl _ _ | assumption | apply Fr.drew | apply Fr.drewN | apply Fr.alloc | (apply Fr.step; assumption; (intro _ h; (first | exact h | (focus (simp_all; done))))) | (apply Fr.setIn; (first | exact List.mem_cons_self | exact List.mem_cons_of_mem _ List.mem_cons_self | exact List.mem_cons_of_mem _ (List.mem_cons_of_mem _ List.mem_cons_self) | exact List.mem_cons_of_mem _ (List.mem_cons_of_mem _ (List.mem_cons_of_mem _ List.mem_cons_self)))) | (apply Fr.setNew; (first | omega | (simp; omega))))⟩

theorem best_no (w : World) (q : Value) (hq : ∀ w', Fr [] w w' → Calls Try.prog 140 #[q] w' fun e w'' => e = .returned (.int .i64 0) ∧ w' = w'') :
    Calls Try.prog 93 #[q] w fun e w' => e = .returned (.tuple #[lvV ⟨0, 0, 0, 0⟩, .bool false]) ∧ Fr [] w w' := by
  have HL := Lib.hid hq
  clear hq
  go_enter Try.func93, Try.ntmps93
  go_wp2_with fail
  refine (HL.out _ (by with_reducible repeat (first | exact Fr.refl _ _ | assumption | apply Fr.drew | apply Fr.drewN | apply Fr.alloc | (apply Fr.step; assumption; (intro _ h; (first | exact h | (focus (simp_all; done))))) | (apply Fr.setIn; (first | exact List.mem_cons_self | exact List.mem_cons_of_mem _ List.mem_cons_self | exact List.mem_cons_of_mem _ (List.mem_cons_of_mem _ List.mem_cons_self) | exact List.mem_cons_of_mem _ (List.mem_cons_of_mem _ (List.mem_cons_of_mem _ List.mem_cons_self)))) | (apply Fr.setNew; (first | omega | (simp; omega)))))).mono ?_
  rintro e w1 ⟨rfl, rfl⟩
  go_wp2_with fail
  exact bodyPost_ret (v := .tuple #[lvV ⟨0, 0, 0, 0⟩, .bool false]) (by simp [results, Try.results93, go_sem, lvV]) rfl ⟨rfl, by with_reducible repeat (first | exact Fr.refl _ _ | assumption | apply Fr.drew | apply Fr.drewN | apply Fr.alloc | (apply Fr.step; assumption; (intro _ h; (first | exact h | (focus (simp_all; done))))) | (apply Fr.setIn; (first | exact List.mem_cons_self | exact List.mem_cons_of_mem _ List.mem_cons_self | exact List.mem_cons_of_mem _ (List.mem_cons_of_mem _ List.mem_cons_self) | exact List.mem_cons_of_mem _ (List.mem_cons_of_mem _ (List.mem_cons_of_mem _ List.mem_cons_self)))) | (apply Fr.setNew; (first | omega | (simp; omega))))⟩

theorem keyI_inj {side a b : Int} (h : keyI side a = keyI side b) : a = b := by
  unfold keyI at h
  split at h <;> omega

/-- Where a price stands. -/
theorem placed_yes {side : Int} {n : Nat} {f : Nat → Lvl} {p : Int} {i j : Nat} (h : Placed side n f p i) (hs : ∀ i j, i < j → j < n → keyI side (f i).price < keyI side (f j).price) (hj : j < n) (hp : (f j).price = p) : i = j ∧ (decide (i < n) && decide (keyI side (f i).price = keyI side p)) = true := by
  subst hp
  have e : i = j := by
    rcases Nat.lt_trichotomy i j with c | c | c
    · have h1 := h.2.2 i (Nat.le_refl _) (by omega)
      have h2 := hs i j c hj
      omega
    · exact c
    · have := h.2.1 j c
      omega
  subst e
  simp [hj]
theorem placed_no {side : Int} {n : Nat} {f : Nat → Lvl} {p : Int} {i : Nat} (hno : ∀ j, j < n → (f j).price ≠ p) : (decide (i < n) && decide (keyI side (f i).price = keyI side p)) = false := by
  by_cases c : i < n
  · have : keyI side (f i).price ≠ keyI side p := fun e => hno i c (keyI_inj e)
    simp [this]
  · simp [c]

theorem find_yes (w : World) (lp : Nat) (side most : Int) (v : Value) (u : Nat → Nat) (n : Nat) (f : Nat → Lvl) (h : LadR w lp side most v u n f) (j : Nat) (hj : j < n) :
    Calls Try.prog 107 #[.pointer (some ⟨lp, 0, none⟩), .int .i64 (f j).price] w fun e w' => e = .returned (.tuple #[lvV (f j), .bool true]) ∧ Fr [] w w' := by
  have HP := Lib.hid (fun w' (F : Fr [] w w') => (h.fr F (by simp) (by simp)).find (f j).price (h.in63 j hj))
  have HX := Lib.hid (fun w' (F : Fr [] w w') => (h.fr F (by simp) (by simp)))
  have HSo := Lib.hid h.sorted
  clear h
  go_enter Try.func107, Try.ntmps107
  go_wp2_with fail
  have X0 : Blk (w.alloc (.cells #[.int .i64 0, .int .i64 0, .int .i64 0, .int .i64 0] 159)) w.heap.size 159 #[.int .i64 0, .int .i64 0, .int .i64 0, .int .i64 0] := Blk.new _ _ _
  refine (HP.out _ (by with_reducible repeat (first | exact Fr.refl _ _ | assumption | apply Fr.drew | apply Fr.drewN | apply Fr.alloc | (apply Fr.step; assumption; (intro _ h; (first | exact h | (focus (simp_all; done))))) | (apply Fr.setIn; (first | exact List.mem_cons_self | exact List.mem_cons_of_mem _ List.mem_cons_self | exact List.mem_cons_of_mem _ (List.mem_cons_of_mem _ List.mem_cons_self) | exact List.mem_cons_of_mem _ (List.mem_cons_of_mem _ (List.mem_cons_of_mem _ List.mem_cons_self)))) | (apply Fr.setNew; (first | omega | (simp; omega)))))).mono ?_
  rintro e w1 ⟨i, rfl, F1, hpl⟩
  obtain ⟨rfl, hb⟩ := placed_yes hpl HSo.out hj rfl
  rw [hb]
  have X1 := Blk.via F1 (by simp) X0
  have FF : Fr [] w w1 := by with_reducible repeat (first | exact Fr.refl _ _ | assumption | apply Fr.drew | apply Fr.drewN | apply Fr.alloc | (apply Fr.step; assumption; (intro _ h; (first | exact h | (focus (simp_all; done))))) | (apply Fr.setIn; (first | exact List.mem_cons_self | exact List.mem_cons_of_mem _ List.mem_cons_self | exact List.mem_cons_of_mem _ (List.mem_cons_of_mem _ List.mem_cons_self) | exact List.mem_cons_of_mem _ (List.mem_cons_of_mem _ (List.mem_cons_of_mem _ List.mem_cons_self)))) | (apply Fr.setNew; (first | omega | (simp; omega))))
  have H1 := HX.out _ FF
  have c : w1.cell? ⟨lp, 2, none⟩ = some v := (H1.b.cell 2).trans rfl
  obtain ⟨lb, cap, cur, rfl, hnc, B, m0, m1, m2, m3⟩ := H1.lv hj
  have i1 : (i : Int) < (n : Int) := by omega
  have x0 := X1.cell
  have xf := X1.frozen
  have lx := X1.lt
  clear H1 X0 F1
  go_wp2_with fail
  have XF := (((X1.same 0 (.int .i64 (f i).price)).same 1 (.int .i64 (f i).qty)).same 2 (.int .i64 (f i).orders)).same 3 (.int .i64 (f i).queue)
  have xc := XF.cell
  exact bodyPost_ret (v := .tuple #[lvV (f i), .bool true]) (by simp [results, Try.results107, go_sem, lvV, xc]) rfl ⟨rfl, by with_reducible repeat (first | exact Fr.refl _ _ | assumption | apply Fr.drew | apply Fr.drewN | apply Fr.alloc | (apply Fr.step; assumption; (intro _ h; (first | exact h | (focus (simp_all; done))))) | (apply Fr.setIn; (first | exact List.mem_cons_self | exact List.mem_cons_of_mem _ List.mem_cons_self | exact List.mem_cons_of_mem _ (List.mem_cons_of_mem _ List.mem_cons_self) | exact List.mem_cons_of_mem _ (List.mem_cons_of_mem _ (List.mem_cons_of_mem _ List.mem_cons_self)))) | (apply Fr.setNew; (first | omega | (simp; omega))))⟩

theorem find_no (w : World) (lp : Nat) (side most : Int) (v : Value) (u : Nat → Nat) (n : Nat) (f : Nat → Lvl) (h : LadR w lp side most v u n f) (p : Int) (hp : In63 p) (hno : ∀ j, j < n → (f j).price ≠ p) :
    Calls Try.prog 107 #[.pointer (some ⟨lp, 0, none⟩), .int .i64 p] w fun e w' => e = .returned (.tuple #[lvV ⟨0, 0, 0, 0⟩, .bool false]) ∧ Fr [] w w' := by
  have HP := Lib.hid (fun w' (F : Fr [] w w') => (h.fr F (by simp) (by simp)).find p hp)
  have HN := Lib.hid hno
  clear h hno
  go_enter Try.func107, Try.ntmps107
  go_wp2_with fail
  have X0 : Blk (w.alloc (.cells #[.int .i64 0, .int .i64 0, .int .i64 0, .int .i64 0] 159)) w.heap.size 159 #[.int .i64 0, .int .i64 0, .int .i64 0, .int .i64 0] := Blk.new _ _ _
  refine (HP.out _ (by with_reducible repeat (first | exact Fr.refl _ _ | assumption | apply Fr.drew | apply Fr.drewN | apply Fr.alloc | (apply Fr.step; assumption; (intro _ h; (first | exact h | (focus (simp_all; done))))) | (apply Fr.setIn; (first | exact List.mem_cons_self | exact List.mem_cons_of_mem _ List.mem_cons_self | exact List.mem_cons_of_mem _ (List.mem_cons_of_mem _ List.mem_cons_self) | exact List.mem_cons_of_mem _ (List.mem_cons_of_mem _ (List.mem_cons_of_mem _ List.mem_cons_self)))) | (apply Fr.setNew; (first | omega | (simp; omega)))))).mono ?_
  rintro e w1 ⟨i, rfl, F1, hpl⟩
  rw [placed_no HN.out]
  have X1 := Blk.via F1 (by simp) X0
  have FF : Fr [] w w1 := by with_reducible repeat (first | exact Fr.refl _ _ | assumption | apply Fr.drew | apply Fr.drewN | apply Fr.alloc | (apply Fr.step; assumption; (intro _ h; (first | exact h | (focus (simp_all; done))))) | (apply Fr.setIn; (first | exact List.mem_cons_self | exact List.mem_cons_of_mem _ List.mem_cons_self | exact List.mem_cons_of_mem _ (List.mem_cons_of_mem _ List.mem_cons_self) | exact List.mem_cons_of_mem _ (List.mem_cons_of_mem _ (List.mem_cons_of_mem _ List.mem_cons_self)))) | (apply Fr.setNew; (first | omega | (simp; omega))))
  have x0 := X1.cell
  have xf := X1.frozen
  have lx := X1.lt
  clear X0 F1
  go_wp2_with fail
  have XF := (((X1.same 0 (.int .i64 0)).same 1 (.int .i64 0)).same 2 (.int .i64 0)).same 3 (.int .i64 0)
  have xc := XF.cell
  exact bodyPost_ret (v := .tuple #[lvV ⟨0, 0, 0, 0⟩, .bool false]) (by simp [results, Try.results107, go_sem, lvV, xc]) rfl ⟨rfl, by with_reducible repeat (first | exact Fr.refl _ _ | assumption | apply Fr.drew | apply Fr.drewN | apply Fr.alloc | (apply Fr.step; assumption; (intro _ h; (first | exact h | (focus (simp_all; done))))) | (apply Fr.setIn; (first | exact List.mem_cons_self | exact List.mem_cons_of_mem _ List.mem_cons_self | exact List.mem_cons_of_mem _ (List.mem_cons_of_mem _ List.mem_cons_self) | exact List.mem_cons_of_mem _ (List.mem_cons_of_mem _ (List.mem_cons_of_mem _ List.mem_cons_self)))) | (apply Fr.setNew; (first | omega | (simp; omega))))⟩
theorem find_nil (w : World) (p : Int) :
    Calls Try.prog 107 #[.pointer none, .int .i64 p] w fun e w' => e = .returned (.tuple #[lvV ⟨0, 0, 0, 0⟩, .bool false]) ∧ Fr [] w w' := by
  go_enter Try.func107, Try.ntmps107
  go_wp2_with fail
  exact bodyPost_ret (v := .tuple #[lvV ⟨0, 0, 0, 0⟩, .bool false]) (by simp [results, Try.results107, go_sem, lvV]) rfl ⟨rfl, by with_reducible repeat (first | exact Fr.refl _ _ | assumption | apply Fr.drew | apply Fr.drewN | apply Fr.alloc | (apply Fr.step; assumption; (intro _ h; (first | exact h | (focus (simp_all; done))))) | (apply Fr.setIn; (first | exact List.mem_cons_self | exact List.mem_cons_of_mem _ List.mem_cons_self | exact List.mem_cons_of_mem _ (List.mem_cons_of_mem _ List.mem_cons_self) | exact List.mem_cons_of_mem _ (List.mem_cons_of_mem _ (List.mem_cons_of_mem _ List.mem_cons_self)))) | (apply Fr.setNew; (first | omega | (simp; omega))))⟩

theorem fits_nil (w : World) (p : Int) :
    Calls Try.prog 110 #[.pointer none, .int .i64 p] w fun e w' => e = .returned (.bool false) ∧ Fr [] w w' := by
  go_enter Try.func110, Try.ntmps110
  go_wp2_with fail
  go_ret
  exact ⟨rfl, Fr.refl _ _⟩
theorem fits_any (w : World) (lp : Nat) (side most : Int) (v : Value) (u : Nat → Nat) (n : Nat) (f : Nat → Lvl) (h : LadR w lp side most v u n f) (p : Int) (hp : In63 p) (b : Bool) (hb : ((∃ j, j < n ∧ (f j).price = p) ∨ (n : Int) < most) ↔ b = true) :
    Calls Try.prog 110 #[.pointer (some ⟨lp, 0, none⟩), .int .i64 p] w fun e w' => e = .returned (.bool b) ∧ Fr [] w w' := by
  have HP := Lib.hid (h.find p hp)
  obtain ⟨A, cap, rfl⟩ := h.form
  have HB := Lib.hid hb
  have HSo := Lib.hid h.sorted
  have HX := Lib.hid h
  clear h hb
  by_cases c : ∃ j, j < n ∧ (f j).price = p
  · go_enter Try.func110, Try.ntmps110
    go_wp2_with fail
    refine HP.out.mono ?_
    rintro e w1 ⟨i, rfl, F1, hpl⟩
    obtain ⟨j, hj, hpj⟩ := c
    rw [(placed_yes hpl HSo.out hj hpj).2]
    go_wp2_with fail
    go_quiet (fail)
    go_wp2_with fail
    go_ret
    exact ⟨ret_bool (by rw [HB.out.1 (.inl ⟨j, hj, hpj⟩)]), by with_reducible repeat (first | exact Fr.refl _ _ | assumption | apply Fr.drew | apply Fr.drewN | apply Fr.alloc | (apply Fr.step; assumption; (intro _ h; (first | exact h | (focus (simp_all; done))))) | (apply Fr.setIn; (first | exact List.mem_cons_self | exact List.mem_cons_of_mem _ List.mem_cons_self | exact List.mem_cons_of_mem _ (List.mem_cons_of_mem _ List.mem_cons_self) | exact List.mem_cons_of_mem _ (List.mem_cons_of_mem _ (List.mem_cons_of_mem _ List.mem_cons_self)))) | (apply Fr.setNew; (first | omega | (simp; omega))))⟩
  · have hno : ∀ j, j < n → (f j).price ≠ p := fun j hj e => c ⟨j, hj, e⟩
    have HN := Lib.hid hno
    clear hno
    have HC := Lib.hid c
    clear c
    go_enter Try.func110, Try.ntmps110
    go_wp2_with fail
    refine HP.out.mono ?_
    rintro e w1 ⟨i, rfl, F1, hpl⟩
    rw [placed_no HN.out]
    have c := (Blk.via F1 (by simp) HX.out.b).cell
    go_wp2_with fail
    go_quiet (fail)
    go_wp2_with fail
    go_ret
    refine ⟨ret_bool ?_, by with_reducible repeat (first | exact Fr.refl _ _ | assumption | apply Fr.drew | apply Fr.drewN | apply Fr.alloc | (apply Fr.step; assumption; (intro _ h; (first | exact h | (focus (simp_all; done))))) | (apply Fr.setIn; (first | exact List.mem_cons_self | exact List.mem_cons_of_mem _ List.mem_cons_self | exact List.mem_cons_of_mem _ (List.mem_cons_of_mem _ List.mem_cons_self) | exact List.mem_cons_of_mem _ (List.mem_cons_of_mem _ (List.mem_cons_of_mem _ List.mem_cons_self)))) | (apply Fr.setNew; (first | omega | (simp; omega))))⟩
    by_cases d : (n : Int) < most
    · rw [HB.out.1 (.inr d)]; simpa using d
    · have : b = false := by
        cases hb : b
        · rfl
        · rcases HB.out.2 hb with h | h
          · exact absurd h HC.out
          · exact absurd h d
      rw [this]; simpa using d
end Go.Proofs.Ytkimldeagndgjaa

/- The ladder: the least free queue. -/
namespace Go.Proofs.Ytkimldeagndgjaa
set_option linter.unusedVariables false
set_option linter.unusedSimpArgs false
open Go.RowKit

def usedB (u : Nat → Nat) (q : Nat) : Bool := (u (q / 64)).testBit (q % 64)
def setU (u : Nat → Nat) (q : Nat) : Nat → Nat := fun i => if i = q / 64 then u i ||| 2 ^ (q % 64) else u i

theorem bit_at {x b : Nat} (hx : x < 2 ^ 64) : (bits .and .u64 ((x : Int) / 2 ^ b) 1 == 1) = x.testBit b := by
  have e : ((x : Int) / 2 ^ b) = ((x / 2 ^ b : Nat) : Int) := by simp
  have hl : x / 2 ^ b < 18446744073709551616 := Nat.lt_of_le_of_lt (Nat.div_le_self _ _) hx
  rw [e, show (1 : Int) = ((1 : Nat) : Int) from rfl, bits_and_u64_nat _ 1 hl (by omega), Nat.and_one_is_mod, Nat.testBit_eq_decide_div_mod_eq]
  by_cases c : x / 2 ^ b % 2 = 1
  · simp [c]
  · simp [c]; omega
theorem bit_or {x b : Nat} (hx : x < 2 ^ 64) (hb : b < 64) : bits .or .u64 (x : Int) (IntKind.u64.wrap (2 ^ b)) = ((x ||| 2 ^ b : Nat) : Int) := by
  have hp : 2 ^ b < 2 ^ 64 := Nat.pow_lt_pow_right (by omega) hb
  have e : ((2 : Int) ^ b) = ((2 ^ b : Nat) : Int) := by simp
  rw [e]
  generalize (2 : Nat) ^ b = y at hp ⊢
  rw [Go.IntWalk.u64_in _ (by omega)]
  exact bits_or_u64_nat x y hx hp
theorem all_ones {x : Nat} (h : x < 2 ^ 64) (hb : ∀ b, b < 64 → x.testBit b = true) : x = 18446744073709551615 := by
  apply Nat.eq_of_testBit_eq
  intro b
  by_cases c : b < 64
  · rw [hb b c, show (18446744073709551615 : Nat) = 2 ^ 64 - 1 from rfl, Nat.testBit_two_pow_sub_one]
    simp [c]
  · rw [Nat.testBit_lt_two_pow (Nat.lt_of_lt_of_le h (Nat.pow_le_pow_right (by omega) (by omega))), Nat.testBit_lt_two_pow (Nat.lt_of_lt_of_le (by decide : 18446744073709551615 < 2 ^ 64) (Nat.pow_le_pow_right (by omega) (by omega)))]
theorem ones_bit {b : Nat} (h : b < 64) : (18446744073709551615 : Nat).testBit b = true := by
  rw [show (18446744073709551615 : Nat) = 2 ^ 64 - 1 from rfl, Nat.testBit_two_pow_sub_one]
  simp [h]

set_option maxRecDepth 100000 in
theorem queue_any (w : World) (lp : Nat) (side most : Int) (v : Value) (u : Nat → Nat) (h : BlkL w lp side most v u) (hu : ∀ i, i < 4 → u i < 2 ^ 64) (q : Nat) (hq : q < 256) (hfree : usedB u q = false) (hleast : ∀ p, p < q → usedB u p = true) :
    Calls Try.prog 133 #[.pointer (some ⟨lp, 0, none⟩)] w fun e w' => e = .returned (.int .i64 q) ∧ Fr [lp] w w' ∧ BlkL w' lp side most v (setU u q) := by
  have HU := Lib.hid hu
  have HL := Lib.hid hleast
  have HF := Lib.hid hfree
  have HB := Lib.hid h
  have hcell : ∀ i, i < 4 → w.cell? ⟨lp, 3 + i, none⟩ = some (.int .u64 (u i : Int)) := by
    intro i hi
    rcases (show i = 0 ∨ i = 1 ∨ i = 2 ∨ i = 3 by omega) with rfl | rfl | rfl | rfl
    · exact (h.cell 3).trans rfl
    · exact (h.cell 4).trans rfl
    · exact (h.cell 5).trans rfl
    · exact (h.cell 6).trans rfl
  have HC := Lib.hid hcell
  have hf := h.frozen
  clear hcell hu hleast hfree h
  go_enter Try.func133, Try.ntmps133
  go_wp2_with fail
  go_loopw [6] (fun s6 wr => wr = w ∧ ∃ i : Nat, i ≤ q / 64 ∧ s6 = .int .i64 i) (fun s6 _ => 4 - (intOf s6).toNat)
  case atStart => exact ⟨rfl, 0, by omega, rfl⟩
  case round =>
    obtain ⟨rfl, i, hi, rfl⟩ := hrel
    have i4 : i < 4 := by omega
    have i1 : (i : Int) < 4 := by omega
    have i0 : (0 : Int) ≤ (i : Int) := by omega
    have x := HC.out i i4
    have ux := HU.out i i4
    by_cases hall : u i = 18446744073709551615
    · have hne : (((u i : Nat) : Int) == 18446744073709551615) = true := by simp [hall]
      go_wp2_with fail
      go_roundw
      case rel =>
        refine ⟨trivial, i + 1, ?_, by simp⟩
        have : i ≠ q / 64 := by
          rintro rfl
          have := HF.out
          unfold usedB at this
          rw [hall, ones_bit (Nat.mod_lt _ (by omega))] at this
          cases this
        omega
      case measure => simp [intOf]; omega
    · have hne : (((u i : Nat) : Int) == 18446744073709551615) = false := by simp; omega
      have hiq : i = q / 64 := by
        by_cases c : i = q / 64
        · exact c
        · refine absurd (all_ones ux fun b hb => ?_) hall
          have := HL.out (i * 64 + b) (by omega)
          unfold usedB at this
          rwa [show (i * 64 + b) / 64 = i by omega, show (i * 64 + b) % 64 = b by omega] at this
      have hbq : (u i).testBit (q % 64) = false := by rw [hiq]; exact HF.out
      have hbl : ∀ b, b < q % 64 → (u i).testBit b = true := fun b hb => by
        have := HL.out (i * 64 + b) (by omega)
        unfold usedB at this
        rwa [show (i * 64 + b) / 64 = i by omega, show (i * 64 + b) % 64 = b by omega] at this
      have HBL := Lib.hid hbl
      have HBQ := Lib.hid hbq
      have HIQ := Lib.hid hiq
      clear hbl hbq hiq hne
      have hm : q % 64 < 64 := Nat.mod_lt _ (by omega)
      generalize hr : q % 64 = r at hm
      have HR := Lib.hid hr
      clear hr
      go_wp2_with fail
      go_loopw [5] (fun s5 wq => wq = wr ∧ ∃ b : Nat, b ≤ r ∧ s5 = .int .i64 b) (fun s5 _ => r - (intOf s5).toNat)
      case atStart => exact ⟨rfl, 0, by omega, rfl⟩
      case round =>
        obtain ⟨rfl, b, hb, rfl⟩ := hrel
        have b1 : (b : Int) < 64 := by omega
        have b0 : (0 : Int) ≤ (b : Int) := by omega
        rcases (show b < r ∨ b = r by omega) with hbr | rfl
        · have hbit : (bits .and .u64 ((u i : Int) / 2 ^ b) 1 == 1) = true := by rw [bit_at ux]; exact HBL.out b (by rw [HR.out]; exact hbr)
          go_wp2_with fail
          go_roundw
          case rel => exact ⟨trivial, b + 1, by omega, by simp⟩
          case measure => simp [intOf]; omega
        · have hbit : (bits .and .u64 ((u i : Int) / 2 ^ b) 1 == 1) = false := by rw [bit_at ux, ← HR.out]; exact HBQ.out
          go_wp2_with fail
          refine u_region (S := fun w' => w'.cell? ⟨lp, 3 + i, none⟩ = some (.int .u64 (u i : Int))) 12 (by kernel_rfl) (by kernel_rfl) (by kernel_rfl) (by kernel_rfl) (by kernel_rfl) x ?_
          (refine u_take 0 (v := ?_) rfl rfl (by kernel_rfl) (by kernel_rfl) (fun _ _ _ h => h) (Or.inl ⟨by rfl, ?_⟩) ?_; rotate_left; (focus (intro wz hSw; (try dsimp only at hSw); go_simp; (try with_reducible rfl))); (try simp only [Act.put, List.getElem_toArray, List.getElem_cons_succ, List.getElem_cons_zero, List.setIfInBounds_toArray, List.set_cons_zero, List.set_cons_succ]))
          (refine u_take 1 (v := ?_) rfl rfl (by kernel_rfl) (by kernel_rfl) (fun _ _ _ h => h) (Or.inl ⟨by rfl, ?_⟩) ?_; rotate_left; (focus (intro wz hSw; (try dsimp only at hSw); go_simp; (try with_reducible rfl))); (try simp only [Act.put, List.getElem_toArray, List.getElem_cons_succ, List.getElem_cons_zero, List.setIfInBounds_toArray, List.set_cons_zero, List.set_cons_succ]))
          (refine u_take 2 (v := ?_) rfl rfl (by kernel_rfl) (by kernel_rfl) (fun _ _ _ h => h) (Or.inl ⟨by rfl, ?_⟩) ?_; rotate_left; (focus (intro wz hSw; (try dsimp only at hSw); go_simp; (try with_reducible rfl))); (try simp only [Act.put, List.getElem_toArray, List.getElem_cons_succ, List.getElem_cons_zero, List.setIfInBounds_toArray, List.set_cons_zero, List.set_cons_succ]))
          (refine u_take 3 (v := ?_) rfl rfl (by kernel_rfl) (by kernel_rfl) (fun _ _ _ h => h) (Or.inl ⟨by rfl, ?_⟩) ?_; rotate_left; (focus (intro wz hSw; (try dsimp only at hSw); go_simp; (try with_reducible rfl))); (try simp only [Act.put, List.getElem_toArray, List.getElem_cons_succ, List.getElem_cons_zero, List.setIfInBounds_toArray, List.set_cons_zero, List.set_cons_succ]))
          (refine u_take 4 (v := ?_) rfl rfl (by kernel_rfl) (by kernel_rfl) (fun _ _ _ h => h) (Or.inl ⟨by rfl, ?_⟩) ?_; rotate_left; (focus (intro wz hSw; (try dsimp only at hSw); go_simp; (try with_reducible rfl))); (try simp only [Act.put, List.getElem_toArray, List.getElem_cons_succ, List.getElem_cons_zero, List.setIfInBounds_toArray, List.set_cons_zero, List.set_cons_succ]))
          (refine u_take 5 (v := ?_) rfl rfl (by kernel_rfl) (by kernel_rfl) (fun _ _ _ h => h) (Or.inl ⟨by rfl, ?_⟩) ?_; rotate_left; (focus (intro wz hSw; (try dsimp only at hSw); go_simp; (try with_reducible rfl))); (try simp only [Act.put, List.getElem_toArray, List.getElem_cons_succ, List.getElem_cons_zero, List.setIfInBounds_toArray, List.set_cons_zero, List.set_cons_succ]))
          (refine u_take 6 (v := ?_) rfl rfl (by kernel_rfl) (by kernel_rfl) (fun _ _ _ h => h) (Or.inl ⟨by rfl, ?_⟩) ?_; rotate_left; (focus (intro wz hSw; (try dsimp only at hSw); go_simp; (try with_reducible rfl))); (try simp only [Act.put, List.getElem_toArray, List.getElem_cons_succ, List.getElem_cons_zero, List.setIfInBounds_toArray, List.set_cons_zero, List.set_cons_succ]))
          (refine u_take 7 (v := ?_) rfl rfl (by kernel_rfl) (by kernel_rfl) (fun _ _ _ h => h) (Or.inl ⟨by rfl, ?_⟩) ?_; rotate_left; (focus (intro wz hSw; (try dsimp only at hSw); go_simp; (try with_reducible rfl))); (try simp only [Act.put, List.getElem_toArray, List.getElem_cons_succ, List.getElem_cons_zero, List.setIfInBounds_toArray, List.set_cons_zero, List.set_cons_succ]))
          (refine u_take 8 (v := ?_) rfl rfl (by kernel_rfl) (by kernel_rfl) (fun _ _ _ h => h) (Or.inl ⟨by rfl, ?_⟩) ?_; rotate_left; (focus (intro wz hSw; (try dsimp only at hSw); go_simp; (try with_reducible rfl))); (try simp only [Act.put, List.getElem_toArray, List.getElem_cons_succ, List.getElem_cons_zero, List.setIfInBounds_toArray, List.set_cons_zero, List.set_cons_succ]))
          (refine u_take 9 (v := ?_) rfl rfl (by kernel_rfl) (by kernel_rfl) (fun _ _ _ h => h) (Or.inl ⟨by rfl, ?_⟩) ?_; rotate_left; (focus (intro wz hSw; (try dsimp only at hSw); go_simp; (try with_reducible rfl))); (try simp only [Act.put, List.getElem_toArray, List.getElem_cons_succ, List.getElem_cons_zero, List.setIfInBounds_toArray, List.set_cons_zero, List.set_cons_succ]))
          (refine u_take 10 (v := ?_) rfl rfl (by kernel_rfl) (by kernel_rfl) (fun _ _ _ h => h) (Or.inl ⟨by rfl, ?_⟩) ?_; rotate_left; (focus (intro wz hSw; (try dsimp only at hSw); go_simp; (try with_reducible rfl))); (try simp only [Act.put, List.getElem_toArray, List.getElem_cons_succ, List.getElem_cons_zero, List.setIfInBounds_toArray, List.set_cons_zero, List.set_cons_succ]))
          (refine u_take 11 (v := ?_) rfl rfl (by kernel_rfl) (by kernel_rfl) (fun _ _ _ h => h) (Or.inl ⟨by rfl, ?_⟩) ?_; rotate_left; (focus (intro wz hSw; (try dsimp only at hSw); go_simp; (try with_reducible rfl))); (try simp only [Act.put, List.getElem_toArray, List.getElem_cons_succ, List.getElem_cons_zero, List.setIfInBounds_toArray, List.set_cons_zero, List.set_cons_succ]))
          refine u_last (by kernel_rfl) rfl (by kernel_rfl) ?_
          go_wp2_with fail
          go_ret
          refine ⟨ret_int ?_, ?_, ?_⟩
          · have := HR.out
            have := HIQ.out
            omega
          · with_reducible repeat (first | exact Fr.refl _ _ | assumption | apply Fr.drew | apply Fr.drewN | apply Fr.alloc | (apply Fr.step; assumption; (intro _ h; (first | exact h | (focus (simp_all; done))))) | (apply Fr.setIn; (first | exact List.mem_cons_self | exact List.mem_cons_of_mem _ List.mem_cons_self | exact List.mem_cons_of_mem _ (List.mem_cons_of_mem _ List.mem_cons_self) | exact List.mem_cons_of_mem _ (List.mem_cons_of_mem _ (List.mem_cons_of_mem _ List.mem_cons_self)))) | (apply Fr.setNew; (first | omega | (simp; omega))))
          · rw [bit_or ux hm]
            have e := HR.out
            have eq := HIQ.out
            refine Blk.cast (HB.out.same (3 + i) _) ?_
            rcases (show i = 0 ∨ i = 1 ∨ i = 2 ∨ i = 3 by omega) with rfl | rfl | rfl | rfl <;> simp [setU, ← eq, e]
end Go.Proofs.Ytkimldeagndgjaa

/- The ladder: two rows of levels in two blocks do not overlap (the model's own entry). -/
namespace Go.Proofs.Ytkimldeagndgjaa
set_option linter.unusedVariables false
set_option linter.unusedSimpArgs false
open Go.RowKit

theorem info_lvl0 : (Try.prog.info? 159).map (fun i => (i.zero, i.size, i.bytes)) = some (some (.agg #[.int .i64 0, .int .i64 0, .int .i64 0, .int .i64 0]), 4, 32) := by kernel_rfl
theorem overlaps_apart (w : World) (gx lb o m c : Nat) (cs cur : Array Value) (B1 : Blk w gx 159 cs) (B2 : Blk w lb 159 cur) (hne : gx ≠ lb) (hs : cur.size ≠ 0) :
    (callFunc 164 #[.slice (some ⟨gx, 0, none⟩) 1 1, .slice (some ⟨lb, o, none⟩) m c]).run Try.prog w = .ok (.value (.bool false)) w := by
  obtain ⟨ii, hii, _, hz1, _⟩ := info_parts info_lvl0
  have e1 : w.shape? gx = some (159, cs.size) := by unfold World.shape?; rw [show w.heap[gx]? = _ from B1]
  have e2 : w.shape? lb = some (159, cur.size) := by unfold World.shape?; rw [show w.heap[lb]? = _ from B2]
  rw [run_callFunc_extern Try.func164 (by kernel_rfl) (by kernel_rfl) (by kernel_rfl) (e := Extern.SlicesOverlaps.overlaps #[200, 200] #[4]) (by kernel_rfl),
    Lib.run_overlaps_apart w 200 4 159 Try.underlying200 4 (fun w => by simp [sizeOf, typeInfo, hii, hz1]) ⟨gx, 0, none⟩ ⟨lb, o, none⟩ 1 1 m c hne _ _ _ _ e1 e2 hs (B1.frozen 0) (B1.frozen _)]
  rfl
end Go.Proofs.Ytkimldeagndgjaa

/- The ladder: slices.Insert at its levels. -/
namespace Go.Proofs.Ytkimldeagndgjaa
set_option linter.unusedVariables false
set_option linter.unusedSimpArgs false
open Go.RowKit

theorem info_lvl : (Try.prog.info? 159).map (fun i => (i.zero, i.size, i.bytes)) = some (some (.agg #[.int .i64 0, .int .i64 0, .int .i64 0, .int .i64 0]), 4, 32) := by kernel_rfl

def insF (f : Nat → Lvl) (i : Nat) (x : Lvl) : Nat → Lvl := fun j => if j < i then f j else if j = i then x else f (j - 1)
def lvL (x : Lvl) : List Value := [.int .i64 x.price, .int .i64 x.qty, .int .i64 x.orders, .int .i64 x.queue]

theorem splice_get {α : Type} (L cs : List α) (off j : Nat) (h : off + cs.length ≤ L.length) : (L.take off ++ cs ++ L.drop (off + cs.length))[j]? = if off ≤ j ∧ j < off + cs.length then cs[j - off]? else L[j]? := by
  have ht : (L.take off).length = off := by rw [List.length_take]; omega
  rw [List.append_assoc]
  by_cases c1 : j < off
  · rw [List.getElem?_append_left (by omega), List.getElem?_take_of_lt c1, if_neg (by omega)]
  · rw [List.getElem?_append_right (by omega), ht]
    by_cases c2 : j < off + cs.length
    · rw [List.getElem?_append_left (by omega), if_pos (by omega)]
    · rw [List.getElem?_append_right (by omega), List.getElem?_drop, if_neg (by omega)]
      congr 1
      omega
theorem splice_len {α : Type} (L cs : List α) (off : Nat) (h : off + cs.length ≤ L.length) : (L.take off ++ cs ++ L.drop (off + cs.length)).length = L.length := by
  simp only [List.length_append, List.length_take, List.length_drop]
  omega
theorem seg_cells {w : World} {lb : Nat} {t : TypeId} {cur : Array Value} (B : Blk w lb t cur) {o m : Nat} : ∀ j u, ((cur.toList.drop o).take m)[j]? = some u → w.cell? ((⟨lb, o, none⟩ : Addr).add j) = some u := by
  intro j u hj
  have hjl := (List.getElem?_eq_some_iff.1 hj).1
  rw [List.length_take] at hjl
  have e : (⟨lb, o, none⟩ : Addr).add j = ⟨lb, o + j, none⟩ := by unfold Addr.add; split <;> simp_all
  rw [List.getElem?_take_of_lt (by omega), List.getElem?_drop] at hj
  rw [e, B.cell (o + j)]
  simpa using hj
theorem seg_one {n i : Nat} {cur : Array Value} {f : Nat → Lvl} (hc : ∀ i j, i < n → j < 4 → cur[i * 4 + j]? = some (lvC f i j)) (hs : n * 4 ≤ cur.size) : ∀ u ∈ ((cur.toList.drop (i * 4)).take ((n - i) * 4)), u.oneCell' = true := by
  intro u hu
  obtain ⟨j, hj⟩ := List.getElem?_of_mem hu
  have hjl := (List.getElem?_eq_some_iff.1 hj).1
  rw [List.length_take, List.length_drop] at hjl
  rw [List.getElem?_take_of_lt (by omega), List.getElem?_drop] at hj
  have h1 := hc ((i * 4 + j) / 4) ((i * 4 + j) % 4) (by omega) (Nat.mod_lt _ (by omega))
  rw [show (i * 4 + j) / 4 * 4 + (i * 4 + j) % 4 = i * 4 + j by omega] at h1
  have h2 : cur[i * 4 + j]? = some u := by simpa using hj
  rw [h2] at h1
  cases h1
  rfl
theorem fr_new1 {S : List Nat} {w w1 w2 w4 : World} {g : Nat} (hg : w.heap.size ≤ g) (_h : True) (F1 : Fr [] w w1) (F2 : Fr [g] w1 w2) (F4 : Fr [g] w2.drew w4) : Fr S w w4 := by
  have h1 : Fr [] w w4 := ⟨F4.os.trans (F2.os.trans F1.os), F4.tape.trans (F2.tape.trans F1.tape), F4.output.trans (F2.output.trans F1.output), Nat.le_trans F1.size (Nat.le_trans F2.size F4.size), fun k hk _ =>
    (F4.block k (Nat.lt_of_lt_of_le hk (Nat.le_trans F1.size F2.size)) (by simp; omega)).trans ((F2.block k (Nat.lt_of_lt_of_le hk F1.size) (by simp; omega)).trans (F1.block k hk (by simp)))⟩
  exact h1.mono (by simp)
theorem lvL_cells {w : World} {gx : Nat} {y : Lvl} (hy : Blk w gx 159 (lvL y).toArray) : ∀ j u, (lvL y)[j]? = some u → w.cell? ((⟨gx, 0, none⟩ : Addr).add j) = some u := by
  intro j u hj
  have e : (⟨gx, 0, none⟩ : Addr).add j = ⟨gx, j, none⟩ := by unfold Addr.add; split <;> simp_all
  rw [e, hy.cell j]
  simpa using hj
theorem wpList_appL {w : World} {ops : Array Oper} {rest : List Oper} {o : Oper} {a : Act} {Q : Exit → Act → World → Prop} (hgd : o.guard = none) (s x : Operand)
    (ho : o.op = .call { callee := .builtin .append, args := #[s, x], argTypes := #[200, 200] })
    (v : Value) (n : Nat) (f : Nat → Lvl) (hv : a.eval s = v) (hr : RowL w v n f) (gx c : Nat) (y : Lvl) (hx : a.eval x = .slice (some ⟨gx, 0, none⟩) 1 c) (hy : Blk w gx 159 (lvL y).toArray) (hb : n ≤ 1000)
    (h : ∀ v' w', RowL w' v' (n + 1) (insF f n y) → Fr v.ownBlock.toList w w' → (v'.ownBlock = v.ownBlock ∨ v'.ownBlock = some w.heap.size) → wpList Try.prog ops Q rest (a.put o.dst v') w') :
    wpList Try.prog ops Q (o :: rest) a w := by
  obtain ⟨ii, hii, hz0, hz1, hz2⟩ := info_parts info_lvl
  have hv' : (v = .slice none 0 0 ∧ n = 0) ∨ ∃ g cap cur, v = .slice (some ⟨g, 0, none⟩) n cap ∧ n ≤ cap ∧ Blk w g 159 cur ∧ cur.size = cap * 4 := by
    rcases hr with h | ⟨lb, cap, cur, h1, h2, h3, h4, _⟩
    · exact .inl h
    · exact .inr ⟨lb, cap, cur, h1, h2, h3, h4⟩
  obtain ⟨g', cap', new, w', hrun, hge, B', hsz', hold, hnew, F, hat⟩ := run_appS (P := Try.prog) w 200 o.type 159 ii _ 4 Try.underlying200 hii hz0 hz1 rfl (by omega) (by omega) v n hv' ⟨gx, 0, none⟩ 1 c (lvL y) rfl
    (fun j u hj => by
      have e : (⟨gx, 0, none⟩ : Addr).add j = ⟨gx, j, none⟩ := by unfold Addr.add; split <;> simp_all
      rw [e, hy.cell j]; simpa using hj) (by simp [lvL, Value.oneCell']) (by omega) (by omega)
  refine wpList_plain hgd fun Kq hKq => ?_
  unfold Oper.wp execOp
  simp only [ho, resolve, invoke, builtin, Sem.run_bind, Sem.run_pure, Result.andThen_ok, List.map_toArray, List.map_cons, List.map_nil, hv, hx, hrun]
  refine hKq _ _ (h _ _ (.inr ⟨g', cap', new, rfl, hge, B', hsz', fun i j hi hj => ?_⟩) F ?_)
  · by_cases c : i < n
    · rcases hr with ⟨_, e⟩ | ⟨lb, cap, cur, rfl, h2, h3, h4, h5⟩
      · omega
      · rw [hold lb cap rfl (i * 4 + j) (by omega), h3.cell, h5 i j c hj]
        simp [lvC, insF, c]
    · obtain rfl : i = n := by omega
      rw [hnew j (by omega)]
      rcases (show j = 0 ∨ j = 1 ∨ j = 2 ∨ j = 3 by omega) with rfl | rfl | rfl | rfl <;> simp [lvL, lvC, insF]
  · rcases hat with h | h
    · exact .inl h.symm
    · exact .inr (by rw [h]; rfl)

set_option maxHeartbeats 2000000 in
set_option maxRecDepth 20000 in
theorem insert_any (w : World) (v : Value) (n i : Nat) (f : Nat → Lvl) (hr : RowL w v n f) (hi : i ≤ n) (hn : n ≤ 1000) (gx : Nat) (y : Lvl) (hy : Blk w gx 159 (lvL y).toArray) (hne : ∀ g, v.ownBlock = some g → g ≠ gx) :
    Calls Try.prog 134 #[v, .int .i64 i, .slice (some ⟨gx, 0, none⟩) 1 1] w fun e w' => ∃ v', e = .returned v' ∧ RowL w' v' (n + 1) (insF f i y) ∧ Fr v.ownBlock.toList w w' ∧ (v'.ownBlock = v.ownBlock ∨ ∃ g, v'.ownBlock = some g ∧ w.heap.size ≤ g) := by
  obtain ⟨A, cap, hv⟩ : ∃ A cap, v = .slice A n cap := by
    rcases hr with ⟨rfl, rfl⟩ | ⟨lb, cap, cur, rfl, _⟩
    · exact ⟨_, _, rfl⟩
    · exact ⟨_, _, rfl⟩
  have hnc : n ≤ cap := by
    rcases hr with ⟨h, rfl⟩ | ⟨lb, cap', cur, h, h2, _⟩
    · omega
    · rw [hv] at h; injection h; omega
  have HV := Lib.hid hv
  have HR := Lib.hid hr
  have HY := Lib.hid hy
  have n0 : (n : Int) ≤ 1000 := by omega
  have i0 : (0 : Int) ≤ (i : Int) := by omega
  have i1 : (i : Int) ≤ (n : Int) := by omega
  subst hv
  clear hr hy
  by_cases hin : i = n
  · subst hin
    by_cases hci : cap = i
    · subst hci
      go_enter Try.func134, Try.ntmps134
      go_wp2_with (first
        | (at_builtin
           refine wpList_appL rfl (.tmp 23) (.tmp 24) rfl _ _ f rfl HR.out gx 1 y rfl HY.out (by omega) ?_
           intro v' w1 hr1 F1 hat))
      go_ret
      refine ⟨v', rfl, hr1, F1, ?_⟩
      rcases hat with h | h
      · exact .inl h
      · exact .inr ⟨_, h, Nat.le_refl _⟩
    · have hci' : ¬ cap = i := hci
      go_enter Try.func134, Try.ntmps134
      go_wp2_with (first
        | (at_builtin
           refine wpList_appL rfl (.tmp 23) (.tmp 24) rfl _ _ f rfl HR.out gx 1 y rfl HY.out (by omega) ?_
           intro v' w1 hr1 F1 hat))
      go_ret
      refine ⟨v', rfl, hr1, F1, ?_⟩
      rcases hat with h | h
      · exact .inl h
      · exact .inr ⟨_, h, Nat.le_refl _⟩
  · have hlt : i < n := by omega
    have i2 : (i : Int) < (n : Int) := by omega
    have ine : ((i : Int) == (n : Int)) = false := by simp; omega
    obtain ⟨h0, _⟩ | ⟨lb, cap', cur, e, _, B, hcs, hcur⟩ := HR.out
    · injection h0; omega
    injection e with e1 _ e2
    subst e1; subst e2
    obtain ⟨ii, hii, hz0, hz1, hz2⟩ := info_parts info_lvl
    have hsz : (Try.prog.info? 159).map (·.size) = some 4 := by rw [hii]; simp [hz1]
    have HII := Lib.hid hii
    have HZ := Lib.hid (And.intro hz0 (And.intro hz1 hz2))
    have HSZ := Lib.hid hsz
    have HCUR := Lib.hid hcur
    have HB := Lib.hid B
    have hcs' := Lib.hid hcs
    have HNE := Lib.hid (hne lb rfl)
    have c1 : ¬ cap = i := by omega
    have c2 : i ≤ cap := by omega
    clear hii hz0 hz1 hz2 hsz hcur B hcs hne HR HV
    by_cases hroom : cap < n + 1
    · have r1 : (cap : Int) < (n : Int) + 1 := by omega
      go_enter Try.func134, Try.ntmps134
      go_wp2_with (first
        | (at_builtin
           refine wpList_appZ w rfl (.tmp 34) (.tmp 39) 200 3 rfl 159 ii _ 4 .i64 .i64 Try.underlying200 Try.underlying3 HII.out HZ.out.1 HZ.out.2.1 rfl (by omega) (by have := HZ.out.2.2; omega) lb i cap (n + 1 - i) rfl ?hx cur 159 HB.out hcs'.out (by omega) (by omega) (by omega) (by omega) (n + 1) (by omega) ?_
           case hx => (show Value.int .i64 ((n : Int) + 1 - (i : Int)) = .int .i64 ((n + 1 - i : Nat) : Int); rw [show ((n + 1 - i : Nat) : Int) = (n : Int) + 1 - (i : Int) by omega])
           intro w1 cap1 new hge1 B1 hs1 hold1 F1
           have d1 : ¬ cap1 = i := by omega
           have d2 : i ≤ n + 1 := by omega
           have d3 : (i : Int) ≤ (n : Int) + 1 := by omega)
        | (refine wpList_copyS w1 rfl (.tmp 43) (.tmp 44) _ _ rfl 159 4 Try.underlying200 HSZ.out w.heap.size (i * 4) (n + 1 - i) (cap1 - i) ⟨gx, 0, none⟩ 1 1 ?hd rfl new 159 B1 (lvL y) ?hn ?hs ?hf ?h1 ?_
           case hd => rfl
           case hn => (have e : Nat.min 1 (n + 1 - i) = 1 := Nat.min_eq_left (by omega)
                       rw [e]
                       rfl)
           case hs => exact lvL_cells (Blk.via F1 (by simp) HY.out)
           case hf => (show i * 4 + 4 ≤ new.size; omega)
           case h1 => simp [lvL, Value.oneCell']
           intro w2 B2 F2))
      have hB2 := Blk.via (F1.trans (S := []) (Fr.refl _ _)) (by simp) HB.out
      have hw : w.heap.size < w1.heap.size := B1.lt
      have hlw := HB.out.lt
      have B3 : Blk w2 lb 159 cur := Blk.via F2 (by simp; omega) (Blk.via F1 (by simp) HB.out)
      have d4 : ¬ cap1 = i + 1 := by omega
      have d5 : i + 1 ≤ n + 1 := by omega
      have d6 : (i : Int) + 1 ≤ (n : Int) + 1 := by omega
      have d7 : (0 : Int) ≤ (i : Int) + 1 := by omega
      clear hB2
      refine u_region (S := fun _ => True) 8 (by kernel_rfl) (by kernel_rfl) (by kernel_rfl) (by kernel_rfl) (by kernel_rfl) trivial ?_
      (refine u_take 0 (v := ?_) rfl rfl (by kernel_rfl) (by kernel_rfl) (fun _ _ _ h => h) (Or.inl ⟨by rfl, ?_⟩) ?_; rotate_left; (focus (intro wz hSw; (try dsimp only at hSw); go_simp; (try with_reducible rfl))); (try simp only [Act.put, List.getElem_toArray, List.getElem_cons_succ, List.getElem_cons_zero, List.setIfInBounds_toArray, List.set_cons_zero, List.set_cons_succ]))
      (refine u_take 1 (v := ?_) rfl rfl (by kernel_rfl) (by kernel_rfl) (fun _ _ _ h => h) (Or.inl ⟨by rfl, ?_⟩) ?_; rotate_left; (focus (intro wz hSw; (try dsimp only at hSw); go_simp; (try with_reducible rfl))); (try simp only [Act.put, List.getElem_toArray, List.getElem_cons_succ, List.getElem_cons_zero, List.setIfInBounds_toArray, List.set_cons_zero, List.set_cons_succ]))
      (refine u_take 2 (v := ?_) rfl rfl (by kernel_rfl) (by kernel_rfl) (fun _ _ _ h => h) (Or.inl ⟨by rfl, ?_⟩) ?_; rotate_left; (focus (intro wz hSw; (try dsimp only at hSw); go_simp; (try with_reducible rfl))); (try simp only [Act.put, List.getElem_toArray, List.getElem_cons_succ, List.getElem_cons_zero, List.setIfInBounds_toArray, List.set_cons_zero, List.set_cons_succ]))
      (refine u_take 3 (v := .int .i64 ((i : Int) + 1)) rfl rfl (by kernel_rfl) (by kernel_rfl) (fun _ _ _ h => h) (Or.inl ⟨by rfl, ?_⟩) ?_; (focus (intro wz hSw; go_simp; (try rw [Go.IntWalk.i64_in _ (by omega)]))); (try simp only [Act.put, List.getElem_toArray, List.getElem_cons_succ, List.getElem_cons_zero, List.setIfInBounds_toArray, List.set_cons_zero, List.set_cons_succ]))
      (refine u_take 4 (v := ?_) rfl rfl (by kernel_rfl) (by kernel_rfl) (fun _ _ _ h => h) (Or.inl ⟨by rfl, ?_⟩) ?_; rotate_left; (focus (intro wz hSw; (try dsimp only at hSw); go_simp; (try with_reducible rfl))); (try simp only [Act.put, List.getElem_toArray, List.getElem_cons_succ, List.getElem_cons_zero, List.setIfInBounds_toArray, List.set_cons_zero, List.set_cons_succ]))
      (refine u_take 5 (v := ?_) rfl rfl (by kernel_rfl) (by kernel_rfl) (fun _ _ _ h => h) (Or.inl ⟨by rfl, ?_⟩) ?_; rotate_left; (focus (intro wz hSw; (try dsimp only at hSw); go_simp; (try with_reducible rfl))); (try simp only [Act.put, List.getElem_toArray, List.getElem_cons_succ, List.getElem_cons_zero, List.setIfInBounds_toArray, List.set_cons_zero, List.set_cons_succ]))
      (refine u_take 6 (v := ?_) rfl rfl (by kernel_rfl) (by kernel_rfl) (fun _ _ _ h => h) (Or.inl ⟨by rfl, ?_⟩) ?_; rotate_left; (focus (intro wz hSw; (try dsimp only at hSw); go_simp; (try with_reducible rfl))); (try simp only [Act.put, List.getElem_toArray, List.getElem_cons_succ, List.getElem_cons_zero, List.setIfInBounds_toArray, List.set_cons_zero, List.set_cons_succ]))
      (refine u_take 7 (v := ?_) rfl rfl (by kernel_rfl) (by kernel_rfl) (fun _ _ _ h => h) (Or.inl ⟨by rfl, ?_⟩) ?_; rotate_left; (focus (intro wz hSw; (try dsimp only at hSw); go_simp; (try with_reducible rfl))); (try simp only [Act.put, List.getElem_toArray, List.getElem_cons_succ, List.getElem_cons_zero, List.setIfInBounds_toArray, List.set_cons_zero, List.set_cons_succ]))
      refine u_last (by kernel_rfl) rfl (by kernel_rfl) ?_
      refine wpList_copyS _ rfl (.tmp 50) (.tmp 53) _ _ rfl 159 4 Try.underlying200 HSZ.out w.heap.size ((i + 1) * 4) (n - i) (cap1 - (i + 1)) ⟨lb, i * 4, none⟩ (n - i) (cap - i) ?hd ?hx _ 159 B2.drew ((cur.toList.drop (i * 4)).take ((n - i) * 4)) ?hn ?hs ?hf ?h1 ?_
      case hd => rfl
      case hx => rfl
      case hn => (rw [show Nat.min (n - i) (n - i) = n - i from Nat.min_self _, List.length_take, List.length_drop, Array.length_toList, hcs'.out]; omega)
      case hs => exact seg_cells B3.drew
      case hf => (simp only [List.size_toArray, List.length_append, List.length_take, List.length_drop, Array.length_toList, hcs'.out, hs1]; simp only [lvL, List.length_cons, List.length_nil]; omega)
      case h1 => exact seg_one HCUR.out (by rw [hcs'.out]; omega)
      intro w4 B4 F4
      go_wp2_with fail
      go_ret
      refine ⟨_, rfl, .inr ⟨w.heap.size, cap1, _, rfl, hge1, B4, ?_, fun a b ha hb => ?_⟩, ?_, .inr ⟨_, rfl, Nat.le_refl _⟩⟩
      · simp only [List.size_toArray, List.length_append, List.length_take, List.length_drop, Array.length_toList, hcs'.out, hs1, lvL, List.length_cons, List.length_nil]
        omega
      · have hcl : ((cur.toList.drop (i * 4)).take ((n - i) * 4)).length = (n - i) * 4 := by rw [List.length_take, List.length_drop, Array.length_toList, hcs'.out]; omega
        have hl4 : (lvL y).length = 4 := rfl
        have hX : (new.toList.take (i * 4) ++ lvL y ++ new.toList.drop (i * 4 + (lvL y).length)).length = new.size := by
          simp only [List.length_append, List.length_take, List.length_drop, Array.length_toList, hs1, hl4]
          omega
        rw [List.getElem?_toArray, splice_get _ _ _ _ (by rw [hX, hcl, hs1]; omega), hcl]
        by_cases c1 : i < a
        · rw [if_pos (by omega), List.getElem?_take_of_lt (by omega), List.getElem?_drop]
          have h1 := HCUR.out (a - 1) b (by omega) hb
          rw [show i * 4 + (a * 4 + b - (i + 1) * 4) = (a - 1) * 4 + b by omega]
          rw [Array.getElem?_toList, h1]
          have c2 : ¬ a < i := by omega
          have c3 : ¬ a = i := by omega
          simp [lvC, insF, c2, c3]
        · rw [if_neg (by omega), splice_get _ _ _ _ (by show i * 4 + 4 ≤ new.toList.length; rw [Array.length_toList, hs1]; omega), hl4]
          by_cases c2 : a = i
          · subst c2
            rw [if_pos (by omega), Nat.add_sub_cancel_left]
            rcases (show b = 0 ∨ b = 1 ∨ b = 2 ∨ b = 3 by omega) with rfl | rfl | rfl | rfl <;> simp [lvL, lvC, insF]
          · rw [if_neg (by omega), Array.getElem?_toList, hold1 _ (by omega), HCUR.out a b (by omega) hb]
            have c3 : a < i := by omega
            simp [lvC, insF, c3]
      · exact fr_new1 (by omega) (by simp [Value.ownBlock]) F1 F2 F4
    · have r1 : ¬ (cap : Int) < (n : Int) + 1 := by omega
      have d4 : ¬ cap = i + 1 := by omega
      have d5 : i + 1 ≤ n + 1 := by omega
      have d6 : (i : Int) + 1 ≤ (n : Int) + 1 := by omega
      have d7 : (0 : Int) ≤ (i : Int) + 1 := by omega
      have d8 : (i : Int) ≤ (n : Int) + 1 := by omega
      have d9 : n + 1 ≤ cap := by omega
      have d10 : i ≤ n + 1 := by omega
      have hov := fun m c => overlaps_apart w gx lb ((i + 1) * 4) m c _ _ HY.out HB.out (fun e => HNE.out e.symm) (by rw [hcs'.out]; omega)
      go_enter Try.func134, Try.ntmps134
      go_wp2_with fail
      refine u_region (S := fun _ => True) 8 (by kernel_rfl) (by kernel_rfl) (by kernel_rfl) (by kernel_rfl) (by kernel_rfl) trivial ?_
      (refine u_take 0 (v := ?_) rfl rfl (by kernel_rfl) (by kernel_rfl) (fun _ _ _ h => h) (Or.inl ⟨by rfl, ?_⟩) ?_; rotate_left; (focus (intro wz hSw; (try dsimp only at hSw); go_simp; (try with_reducible rfl))); (try simp only [Act.put, List.getElem_toArray, List.getElem_cons_succ, List.getElem_cons_zero, List.setIfInBounds_toArray, List.set_cons_zero, List.set_cons_succ]))
      (refine u_take 1 (v := ?_) rfl rfl (by kernel_rfl) (by kernel_rfl) (fun _ _ _ h => h) (Or.inl ⟨by rfl, ?_⟩) ?_; rotate_left; (focus (intro wz hSw; (try dsimp only at hSw); go_simp; (try with_reducible rfl))); (try simp only [Act.put, List.getElem_toArray, List.getElem_cons_succ, List.getElem_cons_zero, List.setIfInBounds_toArray, List.set_cons_zero, List.set_cons_succ]))
      (refine u_take 2 (v := ?_) rfl rfl (by kernel_rfl) (by kernel_rfl) (fun _ _ _ h => h) (Or.inl ⟨by rfl, ?_⟩) ?_; rotate_left; (focus (intro wz hSw; (try dsimp only at hSw); go_simp; (try with_reducible rfl))); (try simp only [Act.put, List.getElem_toArray, List.getElem_cons_succ, List.getElem_cons_zero, List.setIfInBounds_toArray, List.set_cons_zero, List.set_cons_succ]))
      (refine u_take 3 (v := .int .i64 ((i : Int) + 1)) rfl rfl (by kernel_rfl) (by kernel_rfl) (fun _ _ _ h => h) (Or.inl ⟨by rfl, ?_⟩) ?_; (focus (intro wz hSw; go_simp; (try rw [Go.IntWalk.i64_in _ (by omega)]))); (try simp only [Act.put, List.getElem_toArray, List.getElem_cons_succ, List.getElem_cons_zero, List.setIfInBounds_toArray, List.set_cons_zero, List.set_cons_succ]))
      (refine u_take 4 (v := ?_) rfl rfl (by kernel_rfl) (by kernel_rfl) (fun _ _ _ h => h) (Or.inl ⟨by rfl, ?_⟩) ?_; rotate_left; (focus (intro wz hSw; (try dsimp only at hSw); go_simp; (try with_reducible rfl))); (try simp only [Act.put, List.getElem_toArray, List.getElem_cons_succ, List.getElem_cons_zero, List.setIfInBounds_toArray, List.set_cons_zero, List.set_cons_succ]))
      (refine u_take 5 (v := ?_) rfl rfl (by kernel_rfl) (by kernel_rfl) (fun _ _ _ h => h) (Or.inl ⟨by rfl, ?_⟩) ?_; rotate_left; (focus (intro wz hSw; (try dsimp only at hSw); go_simp; (try with_reducible rfl))); (try simp only [Act.put, List.getElem_toArray, List.getElem_cons_succ, List.getElem_cons_zero, List.setIfInBounds_toArray, List.set_cons_zero, List.set_cons_succ]))
      (refine u_take 6 (v := ?_) rfl rfl (by kernel_rfl) (by kernel_rfl) (fun _ _ _ h => h) (Or.inl ⟨by rfl, ?_⟩) ?_; rotate_left; (focus (intro wz hSw; (try dsimp only at hSw); go_simp; (try with_reducible rfl))); (try simp only [Act.put, List.getElem_toArray, List.getElem_cons_succ, List.getElem_cons_zero, List.setIfInBounds_toArray, List.set_cons_zero, List.set_cons_succ]))
      (refine u_take 7 (v := ?_) rfl rfl (by kernel_rfl) (by kernel_rfl) (fun _ _ _ h => h) (Or.inl ⟨by rfl, ?_⟩) ?_; rotate_left; (focus (intro wz hSw; (try dsimp only at hSw); go_simp; (try with_reducible rfl))); (try simp only [Act.put, List.getElem_toArray, List.getElem_cons_succ, List.getElem_cons_zero, List.setIfInBounds_toArray, List.set_cons_zero, List.set_cons_succ]))
      refine u_last (by kernel_rfl) rfl (by kernel_rfl) ?_
      refine wpList_copyS _ rfl (.tmp 73) (.tmp 76) _ _ rfl 159 4 Try.underlying200 HSZ.out lb ((i + 1) * 4) (n - i) (cap - (i + 1)) ⟨lb, i * 4, none⟩ (n + 1 - i) (cap - i) ?hd ?hx _ 159 HB.out.drew ((cur.toList.drop (i * 4)).take ((n - i) * 4)) ?hn ?hs ?hf ?h1 ?_
      case hd => rfl
      case hx => rfl
      case hn => (rw [show Nat.min (n + 1 - i) (n - i) = n - i from Nat.min_eq_right (by omega), List.length_take, List.length_drop, Array.length_toList, hcs'.out]; omega)
      case hs => exact seg_cells HB.out.drew
      case hf => (simp only [List.length_take, List.length_drop, Array.length_toList, hcs'.out]; omega)
      case h1 => exact seg_one HCUR.out (by rw [hcs'.out]; omega)
      intro w4 B4 F4
      have hcl : ((cur.toList.drop (i * 4)).take ((n - i) * 4)).length = (n - i) * 4 := by rw [List.length_take, List.length_drop, Array.length_toList, hcs'.out]; omega
      have hXl : (cur.toList.take ((i + 1) * 4) ++ (cur.toList.drop (i * 4)).take ((n - i) * 4) ++ cur.toList.drop ((i + 1) * 4 + ((cur.toList.drop (i * 4)).take ((n - i) * 4)).length)).length = cap * 4 := by
        rw [hcl]
        simp only [List.length_append, List.length_take, List.length_drop, Array.length_toList, hcs'.out]
        omega
      have Y4 : Blk w4 gx 159 (lvL y).toArray := Blk.via F4 (by simpa using fun e => HNE.out e.symm) HY.out.drew
      go_wp2_with (first
        | (refine wpList_copyS w4 rfl (.tmp 80) (.tmp 81) _ _ rfl 159 4 Try.underlying200 HSZ.out lb (i * 4) (n + 1 - i) (cap - i) ⟨gx, 0, none⟩ 1 1 ?hd rfl _ 159 B4 (lvL y) ?hn ?hs ?hf ?h1 ?_
           case hd => rfl
           case hn => (have e : Nat.min 1 (n + 1 - i) = 1 := Nat.min_eq_left (by omega)
                       rw [e]
                       rfl)
           case hs => exact lvL_cells Y4
           case hf => (rw [List.size_toArray, hXl]; show i * 4 + 4 ≤ cap * 4; omega)
           case h1 => simp [lvL, Value.oneCell']
           intro w5 B5 F5))
      go_ret
      refine ⟨_, rfl, .inr ⟨lb, cap, _, rfl, d9, B5, ?_, fun a b ha hb => ?_⟩, ?_, .inl rfl⟩
      · rw [List.size_toArray, splice_len _ _ _ (by show i * 4 + 4 ≤ _; rw [hXl]; omega), hXl]
      · have hl4 : (lvL y).length = 4 := rfl
        rw [List.getElem?_toArray, splice_get _ _ _ _ (by show i * 4 + 4 ≤ _; rw [hXl]; omega), hl4]
        by_cases c2 : a = i
        · subst c2
          rw [if_pos (by omega), Nat.add_sub_cancel_left]
          rcases (show b = 0 ∨ b = 1 ∨ b = 2 ∨ b = 3 by omega) with rfl | rfl | rfl | rfl <;> simp [lvL, lvC, insF]
        · rw [if_neg (by omega), splice_get _ _ _ _ (by rw [hcl, Array.length_toList, hcs'.out]; omega), hcl]
          by_cases c1 : i < a
          · rw [if_pos (by omega), List.getElem?_take_of_lt (by omega), List.getElem?_drop]
            have h1 := HCUR.out (a - 1) b (by omega) hb
            rw [show i * 4 + (a * 4 + b - (i + 1) * 4) = (a - 1) * 4 + b by omega]
            rw [Array.getElem?_toList, h1]
            have c3 : ¬ a < i := by omega
            simp [lvC, insF, c2, c3]
          · rw [if_neg (by omega), Array.getElem?_toList, HCUR.out a b (by omega) hb]
            have c3 : a < i := by omega
            simp [lvC, insF, c3]
      · exact (Fr.drew (Fr.refl [lb] w)).trans (F4.trans F5)
end Go.Proofs.Ytkimldeagndgjaa

/- The ladder: Put. -/
namespace Go.Proofs.Ytkimldeagndgjaa
set_option linter.unusedVariables false
set_option linter.unusedSimpArgs false
open Go.RowKit

/-- A ladder in memory, and its queues: a bit is set for each level's, and no two share one. -/
structure LadI (w : World) (lp : Nat) (side most : Int) (v : Value) (u : Nat → Nat) (n : Nat) (f : Nat → Lvl) : Prop where
  r : LadR w lp side most v u n f
  word : ∀ i, i < 4 → u i < 2 ^ 64
  bit : ∀ q, q < 256 → (usedB u q = true ↔ ∃ i, i < n ∧ (f i).queue = (q : Int))
  low : ∀ i, i < n → 0 ≤ (f i).queue ∧ (f i).queue < most
  qty : ∀ i, i < n → 0 ≤ (f i).qty ∧ (f i).qty ≤ 9223372036854775807
  ord : ∀ i, i < n → 1 ≤ (f i).orders
  inj : ∀ i j, i < n → j < n → (f i).queue = (f j).queue → i = j
  own : v.ownBlock ≠ some lp

theorem put_nil (w : World) (p q : Int) :
    Calls Try.prog 87 #[.pointer none, .int .i64 p, .int .i64 q] w fun e w' => e = .returned (.tuple #[.int .i64 0, .int .i64 1]) ∧ w = w' := by
  go_enter Try.func87, Try.ntmps87
  go_wp2_with fail
  go_ret2
  exact ⟨rfl, rfl⟩
theorem put_range (w : World) (lp : Nat) (p q : Int) (h : p < 1 ∨ q < 1) :
    Calls Try.prog 87 #[.pointer (some ⟨lp, 0, none⟩), .int .i64 p, .int .i64 q] w fun e w' => e = .returned (.tuple #[.int .i64 0, .int .i64 9]) ∧ w = w' := by
  have h' : p < 1 ∨ (¬ p < 1 ∧ q < 1) := by omega
  clear h
  rcases h' with h | ⟨h, h2⟩
  all_goals
    go_enter Try.func87, Try.ntmps87
    go_wp2_with fail
    go_ret2
    exact ⟨rfl, rfl⟩
theorem put_full (w : World) (lp : Nat) (side most : Int) (v : Value) (u : Nat → Nat) (n : Nat) (f : Nat → Lvl) (h : LadI w lp side most v u n f) (p q : Int) (hp : 1 ≤ p ∧ p ≤ 9223372036854775807) (hq : 1 ≤ q) (hno : ∀ j, j < n → (f j).price ≠ p) (hfull : most ≤ n) :
    Calls Try.prog 87 #[.pointer (some ⟨lp, 0, none⟩), .int .i64 p, .int .i64 q] w fun e w' => e = .returned (.tuple #[.int .i64 0, .int .i64 7]) ∧ Fr [] w w' := by
  have HP := Lib.hid (h.r.find p (by unfold In63; omega))
  obtain ⟨A, cap, rfl⟩ := h.r.form
  have HN := Lib.hid hno
  have HX := Lib.hid h
  have p1 := hp.1
  clear h hno hp
  go_enter Try.func87, Try.ntmps87
  go_wp2_with fail
  refine HP.out.mono ?_
  rintro e w1 ⟨i, rfl, F1, hpl⟩
  rw [placed_no HN.out]
  have c := (Blk.via F1 (by simp) HX.out.r.b).cell
  go_wp2_with fail
  go_quiet (fail)
  go_wp2_with fail
  go_ret2
  exact ⟨rfl, by with_reducible repeat (first | exact Fr.refl _ _ | assumption | apply Fr.drew | apply Fr.drewN | apply Fr.alloc | (apply Fr.step; assumption; (intro _ h; (first | exact h | (focus (simp_all; done))))) | (apply Fr.setIn; (first | exact List.mem_cons_self | exact List.mem_cons_of_mem _ List.mem_cons_self | exact List.mem_cons_of_mem _ (List.mem_cons_of_mem _ List.mem_cons_self) | exact List.mem_cons_of_mem _ (List.mem_cons_of_mem _ (List.mem_cons_of_mem _ List.mem_cons_self)))) | (apply Fr.setNew; (first | omega | (simp; omega))))⟩
theorem ins_sorted {side : Int} {n : Nat} {f : Nat → Lvl} {x : Lvl} {i : Nat} (hs : ∀ i j, i < j → j < n → keyI side (f i).price < keyI side (f j).price) (hp : Placed side n f x.price i) (hno : ∀ j, j < n → (f j).price ≠ x.price) :
    ∀ a b, a < b → b < n + 1 → keyI side (insF f i x a).price < keyI side (insF f i x b).price := by
  intro a b hab hb
  have hgt : ∀ j, i ≤ j → j < n → keyI side x.price < keyI side (f j).price := fun j h1 h2 => by
    have h3 := hp.2.2 j h1 h2
    have h4 : keyI side (f j).price ≠ keyI side x.price := fun e => hno j h2 (keyI_inj e)
    omega
  unfold insF
  by_cases a1 : a < i
  · by_cases b1 : b < i
    · rw [if_pos a1, if_pos b1]; exact hs a b hab (by have := hp.1; omega)
    · by_cases b2 : b = i
      · rw [if_pos a1, if_neg b1, if_pos b2]; exact hp.2.1 a a1
      · rw [if_pos a1, if_neg b1, if_neg b2]; exact hs a (b - 1) (by omega) (by omega)
  · by_cases a2 : a = i
    · rw [if_neg a1, if_pos a2, if_neg (by omega), if_neg (by omega)]; exact hgt (b - 1) (by omega) (by omega)
    · rw [if_neg a1, if_neg a2, if_neg (by omega), if_neg (by omega)]; exact hs (a - 1) (b - 1) (by omega) (by omega)

theorem pigeon : ∀ (n : Nat) (g : Nat → Nat), (∀ i, i ≤ n → g i < n) → (∀ i j, i ≤ n → j ≤ n → g i = g j → i = j) → False := by
  intro n
  induction n with
  | zero => intro g h _; have := h 0 (Nat.le_refl _); omega
  | succ n ih =>
    intro g h hi
    refine ih (fun i => if g i = n then g (n + 1) else g i) (fun i hl => ?_) (fun i j h1 h2 e => ?_)
    · have a := h i (by omega)
      have b := h (n + 1) (by omega)
      split
      · rename_i c
        have : g (n + 1) ≠ n := fun d => by have := hi i (n + 1) (by omega) (by omega) (by omega); omega
        omega
      · omega
    · split at e <;> split at e
      · exact hi i j (by omega) (by omega) (by omega)
      · have := hi (n + 1) j (by omega) (by omega) e; omega
      · have := hi i (n + 1) (by omega) (by omega) e; omega
      · exact hi i j (by omega) (by omega) e
/-- The least free queue. -/
theorem LadI.least {w : World} {lp : Nat} {side most : Int} {v : Value} {u : Nat → Nat} {n : Nat} {f : Nat → Lvl} (h : LadI w lp side most v u n f) : ∃ q, q ≤ n ∧ usedB u q = false ∧ ∀ p, p < q → usedB u p = true := by
  have hn : n ≤ 200 := by have := h.r.hn; have := h.r.hmost; omega
  have key : ∃ q, q ≤ n ∧ usedB u q = false := Classical.byContradiction fun hc => by
    have hall : ∀ q, q ≤ n → ∃ i, i < n ∧ (f i).queue = (q : Int) := fun q hq => (h.bit q (by omega)).1 (by
      cases hb : usedB u q
      · exact absurd ⟨q, hq, hb⟩ hc
      · rfl)
    refine pigeon n (fun q => if hq : q ≤ n then Classical.choose (hall q hq) else 0) (fun i hi => ?_) (fun i j hi hj e => ?_)
    · rw [dif_pos hi]; exact (Classical.choose_spec (hall i hi)).1
    · rw [dif_pos hi, dif_pos hj] at e
      have a := (Classical.choose_spec (hall i hi)).2
      have b := (Classical.choose_spec (hall j hj)).2
      rw [e] at a
      omega
  obtain ⟨q, hq⟩ := key
  clear h
  induction q using Nat.strongRecOn with
  | ind q ih =>
    by_cases c : ∃ p, p < q ∧ usedB u p = false
    · obtain ⟨p, hp, hb⟩ := c
      exact ih p hp ⟨by omega, hb⟩
    · refine ⟨q, hq.1, hq.2, fun p hp => ?_⟩
      cases hb : usedB u p
      · exact absurd ⟨p, hp, hb⟩ c
      · rfl
theorem setU_used (u : Nat → Nat) (q p : Nat) : usedB (setU u q) p = (usedB u p || decide (p = q)) := by
  unfold usedB setU
  by_cases c : p / 64 = q / 64
  · rw [if_pos c, Nat.testBit_or, Nat.testBit_two_pow]
    congr 1
    by_cases d : p = q
    · subst d; simp
    · have : ¬ q % 64 = p % 64 := by omega
      simp [d, this]
  · rw [if_neg c]
    have : ¬ p = q := fun e => c (by rw [e])
    simp [this]
theorem setU_lt {u : Nat → Nat} {q : Nat} (hu : ∀ i, i < 4 → u i < 2 ^ 64) : ∀ i, i < 4 → setU u q i < 2 ^ 64 := by
  intro i hi
  unfold setU
  split
  · exact Nat.or_lt_two_pow (hu i hi) (Nat.pow_lt_pow_right (by omega) (Nat.mod_lt _ (by omega)))
  · exact hu i hi
theorem insF_lt {f : Nat → Lvl} {i : Nat} {x : Lvl} {n : Nat} {Q : Lvl → Prop} (hx : Q x) (hf : ∀ j, j < n → Q (f j)) (hi : i ≤ n) : ∀ j, j < n + 1 → Q (insF f i x j) := by
  intro j hj
  unfold insF
  split
  · exact hf j (by omega)
  · split
    · exact hx
    · exact hf (j - 1) (by omega)
/-- The place of an old level behind an insertion. -/
theorem insF_old {f : Nat → Lvl} {i : Nat} {x : Lvl} {n : Nat} (hi : i ≤ n) (j : Nat) (hj : j < n) : ∃ k, k < n + 1 ∧ k ≠ i ∧ insF f i x k = f j := by
  by_cases c : j < i
  · exact ⟨j, by omega, by omega, by simp [insF, c]⟩
  · exact ⟨j + 1, by omega, by omega, by unfold insF; rw [if_neg (by omega), if_neg (by omega)]; rfl⟩
theorem insF_cases {f : Nat → Lvl} {i : Nat} {x : Lvl} {n : Nat} (hi : i ≤ n) (k : Nat) (hk : k < n + 1) : (k = i ∧ insF f i x k = x) ∨ ∃ j, j < n ∧ insF f i x k = f j ∧ k = (if j < i then j else j + 1) := by
  by_cases c : k < i
  · exact .inr ⟨k, by omega, by simp [insF, c], by rw [if_pos c]⟩
  · by_cases d : k = i
    · exact .inl ⟨d, by unfold insF; rw [if_neg c, if_pos d]⟩
    · exact .inr ⟨k - 1, by omega, by unfold insF; rw [if_neg c, if_neg d], by rw [if_neg (by omega)]; omega⟩
theorem ins_inj {f : Nat → Lvl} {i : Nat} {x : Lvl} {n : Nat} (hi : i ≤ n) (h : ∀ a b, a < n → b < n → (f a).queue = (f b).queue → a = b) (hx : ∀ a, a < n → (f a).queue ≠ x.queue) :
    ∀ a b, a < n + 1 → b < n + 1 → (insF f i x a).queue = (insF f i x b).queue → a = b := by
  intro a b ha hb e
  rcases insF_cases (f := f) (x := x) hi a ha with ⟨ea, ga⟩ | ⟨ja, ha', ga, ka⟩ <;> rcases insF_cases (f := f) (x := x) hi b hb with ⟨eb, gb⟩ | ⟨jb, hb', gb, kb⟩ <;> rw [ga, gb] at e
  · omega
  · exact absurd e.symm (hx jb hb')
  · exact absurd e (hx ja ha')
  · have := h ja jb ha' hb' e
    subst this
    omega
end Go.Proofs.Ytkimldeagndgjaa

/- The ladder: Put makes a new level. -/
namespace Go.Proofs.Ytkimldeagndgjaa
set_option linter.unusedVariables false
set_option linter.unusedSimpArgs false
open Go.RowKit

theorem RowL.form {w : World} {v : Value} {n : Nat} {f : Nat → Lvl} (h : RowL w v n f) : ∃ A cap, v = .slice A n cap := by
  rcases h with ⟨rfl, rfl⟩ | ⟨lb, cap, cur, rfl, _⟩
  · exact ⟨_, _, rfl⟩
  · exact ⟨_, _, rfl⟩
set_option maxHeartbeats 1000000 in
theorem put_new (w : World) (lp : Nat) (side most : Int) (v : Value) (u : Nat → Nat) (n : Nat) (f : Nat → Lvl) (h : LadI w lp side most v u n f) (p q : Int) (hp : 1 ≤ p ∧ p ≤ 9223372036854775807) (hq : 1 ≤ q ∧ q ≤ 9223372036854775807) (hno : ∀ j, j < n → (f j).price ≠ p) (hroom : (n : Int) < most) :
    Calls Try.prog 87 #[.pointer (some ⟨lp, 0, none⟩), .int .i64 p, .int .i64 q] w fun e w' => ∃ (k i : Nat) (v' : Value), e = .returned (.tuple #[.int .i64 k, .int .i64 0]) ∧ Fr (lp :: v.ownBlock.toList) w w' ∧ (v'.ownBlock = v.ownBlock ∨ ∃ g, v'.ownBlock = some g ∧ w.heap.size ≤ g) ∧
      Placed side n f p i ∧ LadI w' lp side most v' (setU u k) (n + 1) (insF f i ⟨p, q, 1, k⟩) ∧ usedB u k = false ∧ ∀ c, c < k → usedB u c = true := by
  obtain ⟨k, hkn, hkf, hkl⟩ := h.least
  have hv := h.own
  have hmost := h.r.hmost
  have HP := Lib.hid (h.r.find p (by unfold In63; omega))
  have hk256 : k < 256 := by omega
  have HQ := Lib.hid (fun (w' : World) (F : Fr [] w w') => queue_any w' lp side most v u (Blk.via F (by simp) h.r.b) h.word k hk256 hkf hkl)
  obtain ⟨A, cap, hform⟩ := h.r.form
  have HV := Lib.hid hform
  have HN := Lib.hid hno
  have HX := Lib.hid h
  have HK := Lib.hid (And.intro hkf hkl)
  have p1 := hp.1
  have q1 := hq.1
  have HPQ := Lib.hid (And.intro hp hq)
  have hroom' : ¬ most ≤ (n : Int) := by omega
  have HVL := Lib.hid hv
  have ll := h.r.b.lt
  subst hform
  clear h hno hp hq hkf hkl hv HV
  go_enter Try.func87, Try.ntmps87
  go_wp2_with fail
  refine HP.out.mono ?_
  rintro e w1 ⟨i, rfl, F1, hpl⟩
  rw [placed_no HN.out]
  have c := (Blk.via F1 (by simp) HX.out.r.b).cell
  go_wp2_with fail
  go_quiet (fail)
  go_wp2_with fail
  refine (HQ.out _ (by with_reducible repeat (first | exact Fr.refl _ _ | assumption | apply Fr.drew | apply Fr.drewN | apply Fr.alloc | (apply Fr.step; assumption; (intro _ h; (first | exact h | (focus (simp_all; done))))) | (apply Fr.setIn; (first | exact List.mem_cons_self | exact List.mem_cons_of_mem _ List.mem_cons_self | exact List.mem_cons_of_mem _ (List.mem_cons_of_mem _ List.mem_cons_self) | exact List.mem_cons_of_mem _ (List.mem_cons_of_mem _ (List.mem_cons_of_mem _ List.mem_cons_self)))) | (apply Fr.setNew; (first | omega | (simp; omega)))))).mono ?_
  rintro e w2 ⟨rfl, F2, B2⟩
  clear c
  go_wp2_with fail
  refine wp_name (fun W hW => ?_)
  have X : Blk W w2.heap.size 159 (lvL ⟨p, q, 1, k⟩).toArray := Blk.eqv hW (Blk.new _ _ _)
  have G0 : Fr [] w2 W := Fr.eqv hW (by with_reducible repeat (first | exact Fr.refl _ _ | assumption | apply Fr.drew | apply Fr.drewN | apply Fr.alloc | (apply Fr.step; assumption; (intro _ h; (first | exact h | (focus (simp_all; done))))) | (apply Fr.setIn; (first | exact List.mem_cons_self | exact List.mem_cons_of_mem _ List.mem_cons_self | exact List.mem_cons_of_mem _ (List.mem_cons_of_mem _ List.mem_cons_self) | exact List.mem_cons_of_mem _ (List.mem_cons_of_mem _ (List.mem_cons_of_mem _ List.mem_cons_self)))) | (apply Fr.setNew; (first | omega | (simp; omega)))))
  have R : RowL W (.slice A n cap) n f := ((HX.out.r.r.via (F1.drewN _) (by simp)).via F2 (fun g hg => by have := HVL.out; rw [hg] at this; simpa using this)).via G0 (by simp)
  have B3 := Blk.via G0 (by simp) B2
  have hb : ∀ g, (Value.slice A n cap).ownBlock = some g → g < w.heap.size := fun g hg => by
    rcases HX.out.r.r with ⟨e, _⟩ | ⟨lb, cap', cur, e, _, B, _⟩
    · rw [e] at hg; cases hg
    · rw [e] at hg; cases hg; exact B.lt
  have FA : Fr [lp] w w2 := ((F1.mono (by simp)).drewN _).trans F2
  have FB : Fr [lp] w W := FA.trans (G0.mono (by simp))
  have s1 := FA.size
  have HB := Lib.hid hb
  have n1000 : n ≤ 1000 := by omega
  have hin := hpl.1
  clear hW hb B2 F1 F2
  have hS0 : ∀ w', Fr [] W w' → w'.cell? ⟨lp, 2, none⟩ = some (.slice A n cap) ∧ w'.cell? ⟨w2.heap.size, 0, none⟩ = some (.int .i64 p) ∧ w'.cell? ⟨w2.heap.size, 1, none⟩ = some (.int .i64 q) ∧ w'.cell? ⟨w2.heap.size, 2, none⟩ = some (.int .i64 1) ∧ w'.cell? ⟨w2.heap.size, 3, none⟩ = some (.int .i64 k) := fun w' F =>
    have b := Blk.via F (by simp) B3
    have x := Blk.via F (by simp) X
    ⟨(b.cell 2).trans rfl, (x.cell 0).trans rfl, (x.cell 1).trans rfl, (x.cell 2).trans rfl, (x.cell 3).trans rfl⟩
  refine u_region (S := fun w' => w'.cell? ⟨lp, 2, none⟩ = some (.slice A n cap) ∧ w'.cell? ⟨w2.heap.size, 0, none⟩ = some (.int .i64 p) ∧ w'.cell? ⟨w2.heap.size, 1, none⟩ = some (.int .i64 q) ∧ w'.cell? ⟨w2.heap.size, 2, none⟩ = some (.int .i64 1) ∧ w'.cell? ⟨w2.heap.size, 3, none⟩ = some (.int .i64 k)) 11 (by kernel_rfl) (by kernel_rfl) (by kernel_rfl) (by kernel_rfl) (by kernel_rfl) (hS0 _ (Fr.drew (Fr.refl _ _))) ?_
  (refine u_take 0 (v := ?_) rfl rfl (by kernel_rfl) (by kernel_rfl) (fun _ _ _ h => h) (Or.inl ⟨by rfl, ?_⟩) ?_; rotate_left; (focus (intro wz hSw; (try dsimp only at hSw); go_simp; (try with_reducible rfl))); (try simp only [Act.put, List.getElem_toArray, List.getElem_cons_succ, List.getElem_cons_zero, List.setIfInBounds_toArray, List.set_cons_zero, List.set_cons_succ]))
  (refine u_take 1 (v := ?_) rfl rfl (by kernel_rfl) (by kernel_rfl) (fun _ _ _ h => h) (Or.inl ⟨by rfl, ?_⟩) ?_; rotate_left; (focus (intro wz hSw; (try dsimp only at hSw); go_simp; (try with_reducible rfl))); (try simp only [Act.put, List.getElem_toArray, List.getElem_cons_succ, List.getElem_cons_zero, List.setIfInBounds_toArray, List.set_cons_zero, List.set_cons_succ]))
  (refine u_take 2 (v := ?_) rfl rfl (by kernel_rfl) (by kernel_rfl) (fun _ _ _ h => h) (Or.inl ⟨by rfl, ?_⟩) ?_; rotate_left; (focus (intro wz hSw; (try dsimp only at hSw); go_simp; (try with_reducible rfl))); (try simp only [Act.put, List.getElem_toArray, List.getElem_cons_succ, List.getElem_cons_zero, List.setIfInBounds_toArray, List.set_cons_zero, List.set_cons_succ]))
  (refine u_take 3 (v := ?_) rfl rfl (by kernel_rfl) (by kernel_rfl) (fun _ _ _ h => h) (Or.inl ⟨by rfl, ?_⟩) ?_; rotate_left; (focus (intro wz hSw; (try dsimp only at hSw); go_simp; (try with_reducible rfl))); (try simp only [Act.put, List.getElem_toArray, List.getElem_cons_succ, List.getElem_cons_zero, List.setIfInBounds_toArray, List.set_cons_zero, List.set_cons_succ]))
  (refine u_take 4 (v := ?_) rfl rfl (by kernel_rfl) (by kernel_rfl) (fun _ _ _ h => h) (Or.inl ⟨by rfl, ?_⟩) ?_; rotate_left; (focus (intro wz hSw; (try dsimp only at hSw); go_simp; (try with_reducible rfl))); (try simp only [Act.put, List.getElem_toArray, List.getElem_cons_succ, List.getElem_cons_zero, List.setIfInBounds_toArray, List.set_cons_zero, List.set_cons_succ]))
  (refine u_take 5 (v := ?_) rfl rfl (by kernel_rfl) (by kernel_rfl) (fun _ _ _ h => h) (Or.inl ⟨by rfl, ?_⟩) ?_; rotate_left; (focus (intro wz hSw; (try dsimp only at hSw); go_simp; (try with_reducible rfl))); (try simp only [Act.put, List.getElem_toArray, List.getElem_cons_succ, List.getElem_cons_zero, List.setIfInBounds_toArray, List.set_cons_zero, List.set_cons_succ]))
  (refine u_take 6 (v := ?_) rfl rfl (by kernel_rfl) (by kernel_rfl) (fun _ _ _ h => h) (Or.inl ⟨by rfl, ?_⟩) ?_; rotate_left; (focus (intro wz hSw; (try dsimp only at hSw); go_simp; (try with_reducible rfl))); (try simp only [Act.put, List.getElem_toArray, List.getElem_cons_succ, List.getElem_cons_zero, List.setIfInBounds_toArray, List.set_cons_zero, List.set_cons_succ]))
  refine u_one 7 (by kernel_rfl) rfl rfl (fun Kq hKq => ?_)
  go_simp
  refine hKq _ _ (hS0 _ (by with_reducible repeat (first | exact Fr.refl _ _ | assumption | apply Fr.drew | apply Fr.drewN | apply Fr.alloc | (apply Fr.step; assumption; (intro _ h; (first | exact h | (focus (simp_all; done))))) | (apply Fr.setIn; (first | exact List.mem_cons_self | exact List.mem_cons_of_mem _ List.mem_cons_self | exact List.mem_cons_of_mem _ (List.mem_cons_of_mem _ List.mem_cons_self) | exact List.mem_cons_of_mem _ (List.mem_cons_of_mem _ (List.mem_cons_of_mem _ List.mem_cons_self)))) | (apply Fr.setNew; (first | omega | (simp; omega)))))) ?_
  clear hKq Kq
  (try simp only [Act.put, List.getElem_toArray, List.getElem_cons_succ, List.getElem_cons_zero, List.setIfInBounds_toArray, List.set_cons_zero, List.set_cons_succ])
  refine u_one 8 (by kernel_rfl) rfl rfl (fun Kq hKq => ?_)
  go_simp
  have Y : Blk (W.drew.alloc (.cells (lvL ⟨p, q, 1, k⟩).toArray 159)) W.heap.size 159 (lvL ⟨p, q, 1, k⟩).toArray := Blk.new _ _ _
  have GY : Fr [] W (W.drew.alloc (.cells (lvL ⟨p, q, 1, k⟩).toArray 159)) := by with_reducible repeat (first | exact Fr.refl _ _ | assumption | apply Fr.drew | apply Fr.drewN | apply Fr.alloc | (apply Fr.step; assumption; (intro _ h; (first | exact h | (focus (simp_all; done))))) | (apply Fr.setIn; (first | exact List.mem_cons_self | exact List.mem_cons_of_mem _ List.mem_cons_self | exact List.mem_cons_of_mem _ (List.mem_cons_of_mem _ List.mem_cons_self) | exact List.mem_cons_of_mem _ (List.mem_cons_of_mem _ (List.mem_cons_of_mem _ List.mem_cons_self)))) | (apply Fr.setNew; (first | omega | (simp; omega))))
  have hlW := FB.size
  refine (insert_any _ _ n i f (R.via GY (by simp)) hin n1000 W.heap.size ⟨p, q, 1, k⟩ Y (fun g hg e => by have := HB.out g hg; omega)).mono ?_
  rintro e w4 ⟨v', rfl, R4, F4, hv'⟩
  obtain ⟨A', cap', rfl⟩ := R4.form
  have hne : ∀ x, x = lp ∨ x = w2.heap.size → x ∉ (Value.slice A n cap).ownBlock.toList := fun x hx hm => by
    have h1 : (Value.slice A n cap).ownBlock = some x := by simpa using hm
    rcases hx with rfl | rfl
    · exact HVL.out h1
    · have := HB.out _ h1; omega
  have B4 := Blk.via F4 (hne _ (.inl rfl)) (Blk.via GY (by simp) B3)
  have X4 := Blk.via F4 (hne _ (.inr rfl)) (Blk.via GY (by simp) X)
  refine hKq _ _ ⟨(B4.cell 2).trans rfl, (X4.cell 0).trans rfl, (X4.cell 1).trans rfl, (X4.cell 2).trans rfl, (X4.cell 3).trans rfl⟩ ?_
  clear hKq Kq
  have b4 := B4.cell
  have f4 := B4.frozen
  have l4 := B4.lt
  have x4 := (X4.cell 3).trans (show (lvL ⟨p, q, 1, k⟩).toArray[3]? = some (.int .i64 k) from rfl)
  (try simp only [Act.put, List.getElem_toArray, List.getElem_cons_succ, List.getElem_cons_zero, List.setIfInBounds_toArray, List.set_cons_zero, List.set_cons_succ])
  (refine u_take 9 (v := ?_) rfl rfl (by kernel_rfl) (by kernel_rfl) (fun _ _ _ h => h) (Or.inl ⟨by rfl, ?_⟩) ?_; rotate_left; (focus (intro wz hSw; (try dsimp only at hSw); go_simp; (try with_reducible rfl))); (try simp only [Act.put, List.getElem_toArray, List.getElem_cons_succ, List.getElem_cons_zero, List.setIfInBounds_toArray, List.set_cons_zero, List.set_cons_succ]))
  (refine u_take 10 (v := ?_) rfl rfl (by kernel_rfl) (by kernel_rfl) (fun _ _ _ h => h) (Or.inl ⟨by rfl, ?_⟩) ?_; rotate_left; (focus (intro wz hSw; (try dsimp only at hSw); go_simp; (try with_reducible rfl))); (try simp only [Act.put, List.getElem_toArray, List.getElem_cons_succ, List.getElem_cons_zero, List.setIfInBounds_toArray, List.set_cons_zero, List.set_cons_succ]))
  refine u_last (by kernel_rfl) rfl (by kernel_rfl) ?_
  go_wp2_with fail
  go_ret2
  have hlp : ∀ g, (Value.slice A' (n + 1) cap').ownBlock = some g → g ∉ [lp] := fun g hg hm => by
    obtain rfl : g = lp := by simpa using hm
    rcases hv' with e | ⟨g', e, hge⟩
    · exact HVL.out (e.symm.trans hg)
    · rw [hg] at e; cases e
      simp at hge
      omega
  have FS : Fr [lp] w4 (w4.setCell ⟨lp, 2, none⟩ (.slice A' (n + 1) cap')) := Fr.setIn List.mem_cons_self (Fr.refl _ _)
  have HI := HX.out
  have hpp := HPQ.out
  have hbit : ∀ c, c < 256 → (usedB (setU u k) c = true ↔ ∃ j, j < n + 1 ∧ (insF f i ⟨p, q, 1, k⟩ j).queue = (c : Int)) := fun c hc => by
    rw [setU_used]
    constructor
    · intro hb
      rcases (show usedB u c = true ∨ c = k by simpa using hb) with hb | hb
      · obtain ⟨j, hj, e⟩ := (HI.bit c hc).1 hb
        obtain ⟨j', h1, _, h2⟩ := insF_old (f := f) (x := ⟨p, q, 1, k⟩) hin j hj
        exact ⟨j', h1, by rw [h2]; exact e⟩
      · exact ⟨i, by omega, by simp [insF, hb]⟩
    · rintro ⟨j, hj, e⟩
      rcases insF_cases (f := f) (x := ⟨p, q, 1, k⟩) hin j hj with ⟨_, g⟩ | ⟨j', h1, g, _⟩
      · rw [g] at e
        have : c = k := by simp at e; omega
        simp [this]
      · rw [g] at e
        simp [(HI.bit c hc).2 ⟨j', h1, e⟩]
  have hnew : ∀ a, a < n → (f a).queue ≠ (k : Int) := fun a ha e => by
    have := (HI.bit k hk256).2 ⟨a, ha, e⟩
    rw [HK.out.1] at this
    cases this
  refine ⟨k, i, .slice A' (n + 1) cap', rfl, ?_, ?_, hpl, ⟨⟨(B4.same 2 _).cast rfl, R4.via FS hlp, HI.r.hside, hmost, by omega, ?_, ?_⟩, setU_lt HI.word, hbit, ?_, ?_, ?_, ?_, fun e => hlp lp e (by simp)⟩, HK.out⟩
  · have e1 : Fr (lp :: (Value.slice A n cap).ownBlock.toList) w (W.drew.alloc (.cells (lvL ⟨p, q, 1, k⟩).toArray 159)) := Fr.alloc (Fr.drew (FB.mono (by simp))) _
    exact (e1.trans (F4.mono (fun x hx => List.mem_cons_of_mem _ hx))).trans (FS.mono (by simp))
  · rcases hv' with e | ⟨g', e, hge⟩
    · exact .inl e
    · refine .inr ⟨g', e, ?_⟩
      simp at hge
      omega
  · exact insF_lt (Q := fun x => 1 ≤ x.price ∧ x.price ≤ 9223372036854775807) hpp.1 HI.r.price hin
  · exact ins_sorted HI.r.sorted hpl HN.out
  · exact insF_lt (Q := fun x => 0 ≤ x.queue ∧ x.queue < most) (by dsimp only; omega) HI.low hin
  · exact insF_lt (Q := fun x => 0 ≤ x.qty ∧ x.qty ≤ 9223372036854775807) (by dsimp only; omega) HI.qty hin
  · exact insF_lt (Q := fun x => 1 ≤ x.orders) (by dsimp only; omega) HI.ord hin
  · exact ins_inj hin HI.inj hnew
end Go.Proofs.Ytkimldeagndgjaa

/- The ladder: Put adds to a level, or says that it runs over. -/
namespace Go.Proofs.Ytkimldeagndgjaa
set_option linter.unusedVariables false
set_option linter.unusedSimpArgs false
open Go.RowKit

def updF (f : Nat → Lvl) (i : Nat) (x : Lvl) : Nat → Lvl := fun j => if j = i then x else f j
theorem lvl_set {n i0 j0 : Nat} {cur : Array Value} {f f' : Nat → Lvl} {z : Int} (hc : ∀ i j, i < n → j < 4 → cur[i * 4 + j]? = some (lvC f i j)) (hj : j0 < 4) (hf : ∀ i j, i < n → j < 4 → lvC f' i j = if i = i0 ∧ j = j0 then .int .i64 z else lvC f i j) :
    ∀ i j, i < n → j < 4 → (cur.setIfInBounds (i0 * 4 + j0) (.int .i64 z))[i * 4 + j]? = some (lvC f' i j) := by
  intro i j hi hj'
  have h0 := hc i j hi hj'
  rw [Array.getElem?_setIfInBounds, hf i j hi hj']
  by_cases c : i0 * 4 + j0 = i * 4 + j
  · have e1 : i = i0 := by omega
    have e2 : j = j0 := by omega
    have hl := (Array.getElem?_eq_some_iff.1 h0).1
    rw [if_pos c, if_pos (by omega), if_pos ⟨e1, e2⟩]
  · rw [if_neg c, if_neg (by rintro ⟨rfl, rfl⟩; exact c rfl)]
    exact h0
theorem RowL.set {w : World} {lb n cap : Nat} {f : Nat → Lvl} (h : RowL w (.slice (some ⟨lb, 0, none⟩) n cap) n f) {i0 j0 : Nat} {z : Int} (f' : Nat → Lvl) (hj : j0 < 4) (hf : ∀ i j, i < n → j < 4 → lvC f' i j = if i = i0 ∧ j = j0 then .int .i64 z else lvC f i j) :
    RowL (w.setCell ⟨lb, i0 * 4 + j0, none⟩ (.int .i64 z)) (.slice (some ⟨lb, 0, none⟩) n cap) n f' := by
  rcases h with ⟨e, _⟩ | ⟨lb', cap', cur, e, h1, B, h2, h3⟩
  · cases e
  · cases e
    exact .inr ⟨lb, cap, _, rfl, h1, B.same _ _, by simpa using h2, lvl_set h3 hj hf⟩
theorem updF_self {f : Nat → Lvl} {i : Nat} {x : Lvl} : updF f i x i = x := by simp [updF]
theorem updF_ne {f : Nat → Lvl} {i j : Nat} {x : Lvl} (h : j ≠ i) : updF f i x j = f j := by simp [updF, h]
theorem updF_all {f : Nat → Lvl} {i : Nat} {x : Lvl} {n : Nat} {Q : Lvl → Prop} (hx : Q x) (hf : ∀ j, j < n → Q (f j)) : ∀ j, j < n → Q (updF f i x j) := by
  intro j hj
  unfold updF
  split
  · exact hx
  · exact hf j hj
/-- A level with the same price and queue in a level's place. -/
theorem LadI.upd {w w' : World} {lp : Nat} {side most : Int} {v : Value} {u : Nat → Nat} {n : Nat} {f : Nat → Lvl} (h : LadI w lp side most v u n f) {i : Nat} (x : Lvl) (hp : x.price = (f i).price) (hq : x.queue = (f i).queue) (hx : 0 ≤ x.qty ∧ x.qty ≤ 9223372036854775807) (ho : 1 ≤ x.orders)
    (B : BlkL w' lp side most v u) (R : RowL w' v n (updF f i x)) : LadI w' lp side most v u n (updF f i x) := by
  have e1 : ∀ j, (updF f i x j).price = (f j).price := fun j => by
    unfold updF; split
    · rename_i c; rw [c, hp]
    · rfl
  have e2 : ∀ j, (updF f i x j).queue = (f j).queue := fun j => by
    unfold updF; split
    · rename_i c; rw [c, hq]
    · rfl
  refine ⟨⟨B, R, h.r.hside, h.r.hmost, h.r.hn, fun j hj => by rw [e1]; exact h.r.price j hj, fun a b c d => by rw [e1, e1]; exact h.r.sorted a b c d⟩, h.word, fun q hq => ?_, fun j hj => by rw [e2]; exact h.low j hj, updF_all (Q := fun x => 0 ≤ x.qty ∧ x.qty ≤ 9223372036854775807) hx h.qty, updF_all (Q := fun x => 1 ≤ x.orders) ho h.ord, fun a b ha hb e => ?_, h.own⟩
  · rw [h.bit q hq]
    exact ⟨fun ⟨j, a, b⟩ => ⟨j, a, by rw [e2]; exact b⟩, fun ⟨j, a, b⟩ => ⟨j, a, by rw [e2] at b; exact b⟩⟩
  · rw [e2, e2] at e
    exact h.inj a b ha hb e

theorem LadI.lts {w : World} {lp : Nat} {side most : Int} {v : Value} {u : Nat → Nat} {n : Nat} {f : Nat → Lvl} (h : LadI w lp side most v u n f) : ∀ g, v.ownBlock = some g → g < w.heap.size := fun g hg => by
  rcases h.r.r with ⟨e, _⟩ | ⟨lb, cap', cur, e, _, B, _⟩
  · rw [e] at hg; cases hg
  · rw [e] at hg; cases hg; exact B.lt

set_option maxHeartbeats 1000000 in
theorem put_more (w : World) (lp : Nat) (side most : Int) (v : Value) (u : Nat → Nat) (n : Nat) (f : Nat → Lvl) (h : LadI w lp side most v u n f) (j : Nat) (hj : j < n) (q : Int) (hq : 1 ≤ q ∧ q ≤ 9223372036854775807) (hsum : (f j).qty + q ≤ 9223372036854775807) (hord : (f j).orders < 1000000) :
    Calls Try.prog 87 #[.pointer (some ⟨lp, 0, none⟩), .int .i64 (f j).price, .int .i64 q] w fun e w' => e = .returned (.tuple #[.int .i64 (f j).queue, .int .i64 0]) ∧ Fr v.ownBlock.toList w w' ∧
      LadI w' lp side most v u n (updF f j ⟨(f j).price, (f j).qty + q, (f j).orders + 1, (f j).queue⟩) := by
  have HP := Lib.hid (h.r.find (f j).price (h.r.in63 j hj))
  have p1 := (h.r.price j hj).1
  have q1 := hq.1
  have y1 := h.qty j hj
  have o1 := h.ord j hj
  have hv := h.own
  have HA := Lib.hid (fun w => add_in w (f j).qty q ⟨by omega, y1.2⟩ ⟨by omega, hq.2⟩ ⟨by omega, hsum⟩)
  have HX := Lib.hid h
  have HVL := Lib.hid hv
  have HS := Lib.hid hsum
  clear h hv hsum hq
  go_enter Try.func87, Try.ntmps87
  go_wp2_with fail
  refine HP.out.mono ?_
  rintro e w1 ⟨i, rfl, F1, hpl⟩
  obtain ⟨rfl, hb⟩ := placed_yes hpl HX.out.r.sorted hj rfl
  rw [hb]
  have H1 := HX.out.r.fr F1 (by simp) (by simp)
  have c : w1.cell? ⟨lp, 2, none⟩ = some v := (H1.b.cell 2).trans rfl
  obtain ⟨lb, cap, cur, rfl, hnc, B, m0, m1, m2, m3⟩ := H1.lv hj
  have i1 : (i : Int) < (n : Int) := by omega
  have fb := B.frozen
  have lB := B.lt
  clear hb hpl
  go_wp2_with fail
  refine (HA.out _).mono ?_
  rintro e w2 ⟨rfl, rfl⟩
  go_wp2_with fail
  go_ret2
  have hsum' := HS.out
  refine ⟨rfl, ?_, HX.out.upd _ rfl rfl (by dsimp only; omega) (by dsimp only; omega) ?_ ?_⟩
  · exact Fr.setIn (by simp [Value.ownBlock]) (Fr.setIn (by simp [Value.ownBlock]) (F1.mono (by simp)))
  · have hne : lp ≠ lb := fun e => HVL.out (by rw [e]; rfl)
    exact ((H1.b.off hne).off hne)
  · exact (H1.r.set (updF f i ⟨(f i).price, (f i).qty + q, (f i).orders, (f i).queue⟩) (j0 := 1) (by omega) (fun a b ha hb => by
      unfold updF lvC
      by_cases c : a = i
      · subst c
        rcases (show b = 0 ∨ b = 1 ∨ b = 2 ∨ b = 3 by omega) with rfl | rfl | rfl | rfl <;> simp
      · simp [c])).set _ (j0 := 2) (by omega) (fun a b ha hb => by
      unfold updF lvC
      by_cases c : a = i
      · subst c
        rcases (show b = 0 ∨ b = 1 ∨ b = 2 ∨ b = 3 by omega) with rfl | rfl | rfl | rfl <;> simp
      · simp [c])

theorem put_over (w : World) (lp : Nat) (side most : Int) (v : Value) (u : Nat → Nat) (n : Nat) (f : Nat → Lvl) (h : LadI w lp side most v u n f) (j : Nat) (hj : j < n) (q : Int) (hq : 1 ≤ q ∧ q ≤ 9223372036854775807) (hsum : ¬ (f j).qty + q ≤ 9223372036854775807) :
    Calls Try.prog 87 #[.pointer (some ⟨lp, 0, none⟩), .int .i64 (f j).price, .int .i64 q] w fun e w' => e = .returned (.tuple #[.int .i64 0, .int .i64 2]) ∧ Fr [] w w' := by
  have HP := Lib.hid (h.r.find (f j).price (h.r.in63 j hj))
  have p1 := (h.r.price j hj).1
  have q1 := hq.1
  have y1 := h.qty j hj
  have HA := Lib.hid (fun w => add_out w (f j).qty q ⟨by omega, y1.2⟩ ⟨by omega, hq.2⟩ (fun c => hsum c.2))
  have HX := Lib.hid h
  clear h hsum hq
  go_enter Try.func87, Try.ntmps87
  go_wp2_with fail
  refine HP.out.mono ?_
  rintro e w1 ⟨i, rfl, F1, hpl⟩
  obtain ⟨rfl, hb⟩ := placed_yes hpl HX.out.r.sorted hj rfl
  rw [hb]
  have H1 := HX.out.r.fr F1 (by simp) (by simp)
  have c : w1.cell? ⟨lp, 2, none⟩ = some v := (H1.b.cell 2).trans rfl
  obtain ⟨lb, cap, cur, rfl, hnc, B, m0, m1, m2, m3⟩ := H1.lv hj
  have i1 : (i : Int) < (n : Int) := by omega
  have lB := B.lt
  clear hb hpl
  go_wp2_with fail
  refine (HA.out _).mono ?_
  rintro e w2 ⟨rfl, rfl⟩
  go_wp2_with fail
  go_ret2
  exact ⟨rfl, F1⟩
end Go.Proofs.Ytkimldeagndgjaa

/- The ladder: slices.Delete of one level. -/
namespace Go.Proofs.Ytkimldeagndgjaa
set_option linter.unusedVariables false
set_option linter.unusedSimpArgs false
open Go.RowKit

def delF (f : Nat → Lvl) (i : Nat) : Nat → Lvl := fun j => if j < i then f j else f (j + 1)

set_option maxHeartbeats 1000000 in
theorem delete_any (w : World) (lb n cap i : Nat) (f : Nat → Lvl) (hr : RowL w (.slice (some ⟨lb, 0, none⟩) n cap) n f) (hi : i < n) (hn : n ≤ 1000) :
    Calls Try.prog 144 #[.slice (some ⟨lb, 0, none⟩) n cap, .int .i64 i, .int .i64 ((i : Int) + 1)] w fun e w' => e = .returned (.slice (some ⟨lb, 0, none⟩) (n - 1) cap) ∧ RowL w' (.slice (some ⟨lb, 0, none⟩) (n - 1) cap) (n - 1) (delF f i) ∧ Fr [lb] w w' := by
  obtain ⟨cur, hnc, B, hsz, hcur⟩ : ∃ cur, n ≤ cap ∧ Blk w lb 159 cur ∧ cur.size = cap * 4 ∧ ∀ i j, i < n → j < 4 → cur[i * 4 + j]? = some (lvC f i j) := by
    rcases hr with ⟨e, _⟩ | ⟨lb', cap', cur, e, h1, B, h2, h3⟩
    · cases e
    · cases e; exact ⟨cur, h1, B, h2, h3⟩
  clear hr
  have HC := Lib.hid hcur
  have HZ := Lib.hid hsz
  have HB := Lib.hid B
  obtain ⟨ii, hii, hz0, hz1, hz2⟩ := info_parts info_lvl
  have HII := Lib.hid (And.intro hii hz1)
  have HZV := Lib.hid (show ∀ w, (zeroValue 159).run Try.prog w = .ok (.agg #[.int .i64 0, .int .i64 0, .int .i64 0, .int .i64 0]) w from fun w => by kernel_rfl)
  have i0 : (0 : Int) ≤ (i : Int) := by omega
  have i1 : (i : Int) + 1 ≤ (n : Int) := by omega
  have i2 : (i : Int) < (n : Int) := by omega
  have n0 : (n : Int) ≤ 1000 := by omega
  have c1 : i ≤ cap := by omega
  have c2 : i + 1 ≤ cap := by omega
  have c3 : ¬ cap = i := by omega
  have ine : ((i : Int) == (i : Int) + 1) = false := by simp; omega
  clear hii hz0 hz1 hz2 B hsz hcur
  have i3 : (0 : Int) ≤ (i : Int) + 1 := by omega
  have hcl : ((cur.toList.drop ((i + 1) * 4)).take ((n - (i + 1)) * 4)).length = (n - (i + 1)) * 4 := by rw [List.length_take, List.length_drop, Array.length_toList, HZ.out]; omega
  obtain ⟨ad, had, hsrc⟩ : ∃ ad : Addr, (if cap = i + 1 then some (⟨lb, 0, none⟩ : Addr) else some ⟨lb, (i + 1) * 4, none⟩) = some ad ∧ ∀ j u, ((cur.toList.drop ((i + 1) * 4)).take ((n - (i + 1)) * 4))[j]? = some u → w.drew.cell? (ad.add j) = some u := by
    by_cases c : cap = i + 1
    · refine ⟨⟨lb, 0, none⟩, by rw [if_pos c], fun j u hj => ?_⟩
      have h1 := (List.getElem?_eq_some_iff.1 hj).1
      rw [hcl] at h1
      omega
    · exact ⟨_, by rw [if_neg c], seg_cells HB.out.drew⟩
  have HAD := Lib.hid had
  have HSRC := Lib.hid hsrc
  have HCL := Lib.hid hcl
  clear had hsrc hcl
  go_enter Try.func144, Try.ntmps144
  go_wp2_with fail
  refine u_region (S := fun _ => True) 7 (by kernel_rfl) (by kernel_rfl) (by kernel_rfl) (by kernel_rfl) (by kernel_rfl) trivial ?_
  (refine u_take 0 (v := ?_) rfl rfl (by kernel_rfl) (by kernel_rfl) (fun _ _ _ h => h) (Or.inl ⟨by rfl, ?_⟩) ?_; rotate_left; (focus (intro wz hSw; (try dsimp only at hSw); go_simp; (try with_reducible rfl))); (try simp only [Act.put, List.getElem_toArray, List.getElem_cons_succ, List.getElem_cons_zero, List.setIfInBounds_toArray, List.set_cons_zero, List.set_cons_succ]))
  (refine u_take 1 (v := ?_) rfl rfl (by kernel_rfl) (by kernel_rfl) (fun _ _ _ h => h) (Or.inl ⟨by rfl, ?_⟩) ?_; rotate_left; (focus (intro wz hSw; (try dsimp only at hSw); go_simp; (try with_reducible rfl))); (try simp only [Act.put, List.getElem_toArray, List.getElem_cons_succ, List.getElem_cons_zero, List.setIfInBounds_toArray, List.set_cons_zero, List.set_cons_succ]))
  (refine u_take 2 (v := ?_) rfl rfl (by kernel_rfl) (by kernel_rfl) (fun _ _ _ h => h) (Or.inl ⟨by rfl, ?_⟩) ?_; rotate_left; (focus (intro wz hSw; (try dsimp only at hSw); go_simp; (try with_reducible rfl))); (try simp only [Act.put, List.getElem_toArray, List.getElem_cons_succ, List.getElem_cons_zero, List.setIfInBounds_toArray, List.set_cons_zero, List.set_cons_succ]))
  (refine u_take 3 (v := ?_) rfl rfl (by kernel_rfl) (by kernel_rfl) (fun _ _ _ h => h) (Or.inl ⟨by rfl, ?_⟩) ?_; rotate_left; (focus (intro wz hSw; (try dsimp only at hSw); go_simp; (try with_reducible rfl))); (try simp only [Act.put, List.getElem_toArray, List.getElem_cons_succ, List.getElem_cons_zero, List.setIfInBounds_toArray, List.set_cons_zero, List.set_cons_succ]))
  (refine u_take 4 (v := ?_) rfl rfl (by kernel_rfl) (by kernel_rfl) (fun _ _ _ h => h) (Or.inl ⟨by rfl, ?_⟩) ?_; rotate_left; (focus (intro wz hSw; (try dsimp only at hSw); go_simp; (try with_reducible rfl))); (try simp only [Act.put, List.getElem_toArray, List.getElem_cons_succ, List.getElem_cons_zero, List.setIfInBounds_toArray, List.set_cons_zero, List.set_cons_succ]))
  (refine u_take 5 (v := .slice (some ad) (n - (i + 1)) (cap - (i + 1))) rfl rfl (by kernel_rfl) (by kernel_rfl) (fun _ _ _ h => h) (Or.inl ⟨by rfl, ?_⟩) ?_; (focus (intro wz hSw; go_simp; (try rw [HAD.out]))); (try simp only [Act.put, List.getElem_toArray, List.getElem_cons_succ, List.getElem_cons_zero, List.setIfInBounds_toArray, List.set_cons_zero, List.set_cons_succ]))
  refine u_one 6 (by kernel_rfl) rfl rfl (fun Kq hKq => ?_)
  refine step_appRoom _ rfl (.tmp 22) (.tmp 25) 200 159 rfl ii Try.underlying200 HII.out.1 lb i cap ad (n - (i + 1)) (cap - (i + 1)) rfl rfl cur HB.out.drew _ (by rw [HCL.out, HII.out.2]) HSRC.out ?h1 (by omega) ?hf ?_
  case h1 => exact seg_one (i := i + 1) HC.out (by rw [HZ.out]; omega)
  case hf => (rw [HCL.out, HII.out.2, HZ.out]; omega)
  intro w1 B1 F1
  rw [HII.out.2] at B1
  have hX : (cur.toList.take (i * 4) ++ (cur.toList.drop ((i + 1) * 4)).take ((n - (i + 1)) * 4) ++ cur.toList.drop (i * 4 + ((cur.toList.drop ((i + 1) * 4)).take ((n - (i + 1)) * 4)).length)).toArray.size = cap * 4 := by
    rw [HCL.out]
    simp only [List.size_toArray, List.length_append, List.length_take, List.length_drop, Array.length_toList, HZ.out]
    omega
  have HXX := Lib.hid hX
  clear hX
  refine hKq _ _ trivial ?_
  clear hKq Kq
  (try simp only [Act.put, List.getElem_toArray, List.getElem_cons_succ, List.getElem_cons_zero, List.setIfInBounds_toArray, List.set_cons_zero, List.set_cons_succ])
  rw [show i + (n - (i + 1)) = n - 1 by omega]
  refine u_last (by kernel_rfl) rfl (by kernel_rfl) ?_
  have d1 : (n - 1 : Nat) ≤ n := by omega
  have d2 : (((n - 1 : Nat) : Nat) : Int) ≤ (n : Int) := by omega
  have d3 : n ≤ cap := hnc
  have d4 : ¬ cap = n - 1 := by omega
  go_wp2_with (first
    | (refine wpList_clearS _ rfl (.tmp 31) 200 rfl 159 _ 4 Try.underlying200 HZV.out rfl ?c1 lb ((n - 1) * 4) 1 (cap - (n - 1)) ?c2 (by omega) _ B1 ?c3 ?_
       case c1 => simp [Value.cells, Value.oneCell']
       case c2 => (show Value.slice (some ⟨lb, (n - 1) * 4, none⟩) (n - (n - 1)) (cap - (n - 1)) = _; rw [show n - (n - 1) = 1 by omega])
       case c3 => (rw [HXX.out]; omega)
       intro w2 new B2 hs2 ho2 F2))
  go_ret
  refine ⟨rfl, .inr ⟨lb, cap, new, rfl, by omega, B2, hs2.trans HXX.out, fun a b ha hb => ?_⟩, (Fr.drew (Fr.refl [lb] w)).trans (F1.trans F2)⟩
  rw [ho2 _ (by omega), List.getElem?_toArray, splice_get _ _ _ _ (by rw [HCL.out, Array.length_toList, HZ.out]; omega), HCL.out]
  by_cases c : a < i
  · rw [if_neg (by omega), Array.getElem?_toList, HC.out a b (by omega) hb]
    simp [lvC, delF, c]
  · rw [if_pos (by omega), List.getElem?_take_of_lt (by omega), List.getElem?_drop, show (i + 1) * 4 + (a * 4 + b - i * 4) = (a + 1) * 4 + b by omega, Array.getElem?_toList, HC.out (a + 1) b (by omega) hb]
    simp [lvC, delF, c]
end Go.Proofs.Ytkimldeagndgjaa

/- The ladder: Take. -/
namespace Go.Proofs.Ytkimldeagndgjaa
set_option linter.unusedVariables false
set_option linter.unusedSimpArgs false
open Go.RowKit

theorem take_nil (w : World) (p q : Int) (g : Bool) :
    Calls Try.prog 105 #[.pointer none, .int .i64 p, .int .i64 q, .bool g] w fun e w' => e = .returned (.tuple #[.int .i64 0, .int .i64 1]) ∧ w = w' := by
  go_enter Try.func105, Try.ntmps105
  go_wp2_with fail
  go_ret2
  exact ⟨rfl, rfl⟩
theorem take_unknown (w : World) (lp : Nat) (side most : Int) (v : Value) (u : Nat → Nat) (n : Nat) (f : Nat → Lvl) (h : LadI w lp side most v u n f) (p q : Int) (g : Bool) (hp : In63 p) (hno : ∀ j, j < n → (f j).price ≠ p) :
    Calls Try.prog 105 #[.pointer (some ⟨lp, 0, none⟩), .int .i64 p, .int .i64 q, .bool g] w fun e w' => e = .returned (.tuple #[.int .i64 0, .int .i64 5]) ∧ Fr [] w w' := by
  have HP := Lib.hid (h.r.find p hp)
  have HN := Lib.hid hno
  clear h hno
  go_enter Try.func105, Try.ntmps105
  go_wp2_with fail
  refine HP.out.mono ?_
  rintro e w1 ⟨i, rfl, F1, hpl⟩
  rw [placed_no HN.out]
  go_wp2_with fail
  go_ret2
  exact ⟨rfl, F1⟩

theorem take_less (w : World) (lp : Nat) (side most : Int) (v : Value) (u : Nat → Nat) (n : Nat) (f : Nat → Lvl) (h : LadI w lp side most v u n f) (j : Nat) (hj : j < n) (q : Int) (hq : 0 ≤ q ∧ q ≤ (f j).qty) (g : Bool) (hg : g = true → 1 < (f j).orders) (ho : (f j).orders ≤ 1000000) :
    Calls Try.prog 105 #[.pointer (some ⟨lp, 0, none⟩), .int .i64 (f j).price, .int .i64 q, .bool g] w fun e w' => e = .returned (.tuple #[.int .i64 (f j).queue, .int .i64 0]) ∧ Fr v.ownBlock.toList w w' ∧
      LadI w' lp side most v u n (updF f j ⟨(f j).price, (f j).qty - q, (f j).orders - (if g then 1 else 0), (f j).queue⟩) := by
  have HP := Lib.hid (h.r.find (f j).price (h.r.in63 j hj))
  have y1 := h.qty j hj
  have y0 := y1.1
  have y2 := y1.2
  have o1 := h.ord j hj
  have q0 := hq.1
  have q1 := hq.2
  have hv := h.own
  have HX := Lib.hid h
  have HVL := Lib.hid hv
  clear h hv y1 hq
  cases g with
  | false =>
    have o2 : ((f j).orders == 0) = false := by simp; omega
    go_enter Try.func105, Try.ntmps105
    go_wp2_with fail
    refine HP.out.mono ?_
    rintro e w1 ⟨i, rfl, F1, hpl⟩
    obtain ⟨rfl, hb⟩ := placed_yes hpl HX.out.r.sorted hj rfl
    rw [hb]
    have H1 := HX.out.r.fr F1 (by simp) (by simp)
    have c : w1.cell? ⟨lp, 2, none⟩ = some v := (H1.b.cell 2).trans rfl
    obtain ⟨lb, cap, cur, rfl, hnc, B, m0, m1, m2, m3⟩ := H1.lv hj
    have i1 : (i : Int) < (n : Int) := by omega
    have fb := B.frozen
    have lB := B.lt
    clear hb hpl hg
    go_wp2_with fail
    go_ret2
    refine ⟨rfl, ?_, HX.out.upd _ rfl rfl (by dsimp only; omega) (by dsimp only; (try simp only [if_true, Bool.false_eq_true, if_false]); omega) ?_ ?_⟩
    · exact Fr.setIn (by simp [Value.ownBlock]) (F1.mono (by simp))
    · have hne : lp ≠ lb := fun e => HVL.out (by rw [e]; rfl)
      exact (H1.b.off hne)
    · exact (H1.r.set _ (j0 := 1) (by omega) (fun a b ha hb => by
        unfold updF lvC
        by_cases c : a = i
        · subst c
          rcases (show b = 0 ∨ b = 1 ∨ b = 2 ∨ b = 3 by omega) with rfl | rfl | rfl | rfl <;> simp
        · simp [c]))
  | true =>
    have o2 := hg rfl
    have o3 : ((f j).orders - 1 == 0) = false := by simp; omega
    clear hg
    go_enter Try.func105, Try.ntmps105
    go_wp2_with fail
    refine HP.out.mono ?_
    rintro e w1 ⟨i, rfl, F1, hpl⟩
    obtain ⟨rfl, hb⟩ := placed_yes hpl HX.out.r.sorted hj rfl
    rw [hb]
    have H1 := HX.out.r.fr F1 (by simp) (by simp)
    have c : w1.cell? ⟨lp, 2, none⟩ = some v := (H1.b.cell 2).trans rfl
    obtain ⟨lb, cap, cur, rfl, hnc, B, m0, m1, m2, m3⟩ := H1.lv hj
    have i1 : (i : Int) < (n : Int) := by omega
    have fb := B.frozen
    have lB := B.lt
    clear hb hpl
    go_wp2_with fail
    go_ret2
    refine ⟨rfl, ?_, HX.out.upd _ rfl rfl (by dsimp only; omega) (by dsimp only; (try simp only [if_true, Bool.false_eq_true, if_false]); omega) ?_ ?_⟩
    · exact Fr.setIn (by simp [Value.ownBlock]) (Fr.setIn (by simp [Value.ownBlock]) (F1.mono (by simp)))
    · have hne : lp ≠ lb := fun e => HVL.out (by rw [e]; rfl)
      exact ((H1.b.off hne).off hne)
    · exact (H1.r.set (updF f i ⟨(f i).price, (f i).qty - q, (f i).orders, (f i).queue⟩) (j0 := 1) (by omega) (fun a b ha hb => by
        unfold updF lvC
        by_cases c : a = i
        · subst c
          rcases (show b = 0 ∨ b = 1 ∨ b = 2 ∨ b = 3 by omega) with rfl | rfl | rfl | rfl <;> simp
        · simp [c])).set _ (j0 := 2) (by omega) (fun a b ha hb => by
        unfold updF lvC
        by_cases c : a = i
        · subst c
          rcases (show b = 0 ∨ b = 1 ∨ b = 2 ∨ b = 3 by omega) with rfl | rfl | rfl | rfl <;> simp
        · simp [c])

def clrU (u : Nat → Nat) (q : Nat) : Nat → Nat := fun i => if i = q / 64 then u i &&& (2 ^ 64 - (2 ^ (q % 64) + 1)) else u i
theorem bit_andNot {x b : Nat} (hx : x < 2 ^ 64) (hb : b < 64) : bits .andNot .u64 (x : Int) (IntKind.u64.wrap (2 ^ b)) = ((x &&& (2 ^ 64 - (2 ^ b + 1)) : Nat) : Int) := by
  have hp : 2 ^ b < 2 ^ 64 := Nat.pow_lt_pow_right (by omega) hb
  have e : ((2 : Int) ^ b) = ((2 ^ b : Nat) : Int) := by simp
  rw [e]
  generalize (2 : Nat) ^ b = y at hp ⊢
  rw [Go.IntWalk.u64_in _ (by omega)]
  have h1 : (BitVec.ofInt 64 (x : Int)).toNat = x := by
    rw [BitVec.ofInt_natCast, BitVec.toNat_ofNat]; exact Nat.mod_eq_of_lt (by omega)
  have h2 : (BitVec.ofInt 64 (y : Int)).toNat = y := by
    rw [BitVec.ofInt_natCast, BitVec.toNat_ofNat]; exact Nat.mod_eq_of_lt (by omega)
  show IntKind.u64.wrap ((BitVec.ofInt 64 (x : Int) &&& ~~~ BitVec.ofInt 64 (y : Int)).toNat : Int) = _
  rw [BitVec.toNat_and, BitVec.toNat_not, h1, h2, show 2 ^ 64 - 1 - y = 2 ^ 64 - (y + 1) by omega]
  have hl : x &&& (2 ^ 64 - (y + 1)) ≤ x := Nat.and_le_left
  rw [Go.IntWalk.u64_in _ (by omega)]
theorem clrU_lt {u : Nat → Nat} {q : Nat} (hu : ∀ i, i < 4 → u i < 2 ^ 64) : ∀ i, i < 4 → clrU u q i < 2 ^ 64 := by
  intro i hi
  unfold clrU
  split
  · exact Nat.lt_of_le_of_lt Nat.and_le_left (hu i hi)
  · exact hu i hi
theorem clrU_used (u : Nat → Nat) (q p : Nat) : usedB (clrU u q) p = (usedB u p && !decide (p = q)) := by
  unfold usedB clrU
  by_cases c : p / 64 = q / 64
  · have hm : q % 64 < 64 := Nat.mod_lt _ (by omega)
    have hp : p % 64 < 64 := Nat.mod_lt _ (by omega)
    rw [if_pos c, Nat.testBit_and, Nat.testBit_two_pow_sub_succ (Nat.pow_lt_pow_right (by omega) hm), Nat.testBit_two_pow]
    congr 1
    by_cases d : p = q
    · subst d; simp
    · have : ¬ q % 64 = p % 64 := by omega
      simp [d, this, hp]
  · rw [if_neg c]
    have : ¬ p = q := fun e => c (by rw [e])
    simp [this]

theorem delF_upd {f : Nat → Lvl} {i : Nat} {x : Lvl} : delF (updF f i x) i = delF f i := by
  funext j
  unfold delF updF
  split
  · rw [if_neg (by omega)]
  · rw [if_neg (by omega)]
theorem delF_all {f : Nat → Lvl} {i n : Nat} {Q : Lvl → Prop} (hi : i < n) (hf : ∀ j, j < n → Q (f j)) : ∀ j, j < n - 1 → Q (delF f i j) := by
  intro j hj
  unfold delF
  split
  · exact hf j (by omega)
  · exact hf (j + 1) (by omega)
theorem delF_cases {f : Nat → Lvl} {i n : Nat} (j : Nat) (hj : j < n - 1) : ∃ k, k < n ∧ k ≠ i ∧ delF f i j = f k ∧ k = (if j < i then j else j + 1) := by
  unfold delF
  by_cases c : j < i
  · exact ⟨j, by omega, by omega, by rw [if_pos c], by rw [if_pos c]⟩
  · exact ⟨j + 1, by omega, by omega, by rw [if_neg c], by rw [if_neg c]⟩
theorem delF_old {f : Nat → Lvl} {i n : Nat} (hi : i < n) (k : Nat) (hk : k < n) (hki : k ≠ i) : ∃ j, j < n - 1 ∧ delF f i j = f k := by
  unfold delF
  by_cases c : k < i
  · exact ⟨k, by omega, by rw [if_pos c]⟩
  · exact ⟨k - 1, by omega, by rw [if_neg (by omega), show k - 1 + 1 = k by omega]⟩

/-- A level gone. -/
theorem LadI.del {w w' : World} {lp : Nat} {side most : Int} {v v' : Value} {u : Nat → Nat} {n k : Nat} {f : Nat → Lvl} (h : LadI w lp side most v u n f) {i : Nat} (hi : i < n) (hk : (f i).queue = (k : Int)) (hv' : v'.ownBlock = v.ownBlock)
    (B : BlkL w' lp side most v' (clrU u k)) (R : RowL w' v' (n - 1) (delF f i)) : LadI w' lp side most v' (clrU u k) (n - 1) (delF f i) := by
  refine ⟨⟨B, R, h.r.hside, h.r.hmost, by have := h.r.hn; omega, delF_all (Q := fun x => 1 ≤ x.price ∧ x.price ≤ 9223372036854775807) hi h.r.price, fun a b hab hb => ?_⟩, clrU_lt h.word, fun q hq => ?_, delF_all (Q := fun x => 0 ≤ x.queue ∧ x.queue < most) hi h.low, delF_all (Q := fun x => 0 ≤ x.qty ∧ x.qty ≤ 9223372036854775807) hi h.qty, delF_all (Q := fun x => 1 ≤ x.orders) hi h.ord, fun a b ha hb e => ?_, by rw [hv']; exact h.own⟩
  · obtain ⟨ka, h1, _, e1, e2⟩ := delF_cases (f := f) (i := i) (n := n) a (by omega)
    obtain ⟨kb, h3, _, e3, e4⟩ := delF_cases (f := f) (i := i) (n := n) b hb
    rw [e1, e3]
    refine h.r.sorted ka kb ?_ h3
    rw [e2, e4]
    split <;> split <;> omega
  · rw [clrU_used]
    constructor
    · intro hb
      rcases (show usedB u q = true ∧ ¬ q = k by simpa using hb) with ⟨h1, h2⟩
      obtain ⟨j, hj, e⟩ := (h.bit q hq).1 h1
      have hji : j ≠ i := fun c => by rw [c, hk] at e; omega
      obtain ⟨j', h3, h4⟩ := delF_old (f := f) hi j hj hji
      exact ⟨j', h3, by rw [h4]; exact e⟩
    · rintro ⟨j, hj, e⟩
      obtain ⟨j', h1, h2, h3, _⟩ := delF_cases (f := f) (i := i) (n := n) j hj
      rw [h3] at e
      have h4 := (h.bit q hq).2 ⟨j', h1, e⟩
      have h5 : ¬ q = k := fun c => h2 (h.inj j' i h1 hi (by rw [e, hk, c]))
      simp [h4, h5]
  · obtain ⟨ka, h1, _, e1, e2⟩ := delF_cases (f := f) (i := i) (n := n) a ha
    obtain ⟨kb, h3, _, e3, e4⟩ := delF_cases (f := f) (i := i) (n := n) b hb
    rw [e1, e3] at e
    have := h.inj ka kb h1 h3 e
    rw [e2, e4] at this
    split at this <;> split at this <;> omega

set_option maxHeartbeats 1000000 in
theorem take_last (w : World) (lp : Nat) (side most : Int) (v : Value) (u : Nat → Nat) (n : Nat) (f : Nat → Lvl) (h : LadI w lp side most v u n f) (j : Nat) (hj : j < n) (q : Int) (hq : 0 ≤ q ∧ q ≤ (f j).qty) (ho : (f j).orders = 1) :
    Calls Try.prog 105 #[.pointer (some ⟨lp, 0, none⟩), .int .i64 (f j).price, .int .i64 q, .bool true] w fun e w' => e = .returned (.tuple #[.int .i64 (f j).queue, .int .i64 0]) ∧ Fr (lp :: v.ownBlock.toList) w w' ∧
      ∃ v' u', v'.ownBlock = v.ownBlock ∧ LadI w' lp side most v' u' (n - 1) (delF f j) := by
  have HP := Lib.hid (h.r.find (f j).price (h.r.in63 j hj))
  have y1 := h.qty j hj
  have y0 := y1.1
  have y2 := y1.2
  have q0 := hq.1
  have q1 := hq.2
  have hmost := h.r.hmost.2
  obtain ⟨k, hk⟩ : ∃ k : Nat, (f j).queue = (k : Int) := ⟨(f j).queue.toNat, by have := h.low j hj; omega⟩
  have k1 : k < 200 := by have := h.low j hj; omega
  have hv := h.own
  have HX := Lib.hid h
  have HVL := Lib.hid hv
  have HO := Lib.hid ho
  have HK := Lib.hid hk
  clear h hv y1 hq ho hk
  go_enter Try.func105, Try.ntmps105
  go_wp2_with fail
  refine HP.out.mono ?_
  rintro e w1 ⟨i, rfl, F1, hpl⟩
  obtain ⟨rfl, hb⟩ := placed_yes hpl HX.out.r.sorted hj rfl
  rw [hb]
  have H1 := HX.out.r.fr F1 (by simp) (by simp)
  have c : w1.cell? ⟨lp, 2, none⟩ = some v := (H1.b.cell 2).trans rfl
  obtain ⟨lb, cap, cur, rfl, hnc, B, m0, m1, m2, m3⟩ := H1.lv hj
  have i1 : (i : Int) < (n : Int) := by omega
  have fb := B.frozen
  have lB := B.lt
  rw [HO.out] at m2
  rw [HK.out] at m3
  clear hb hpl
  go_wp2_with fail
  refine wp_name (fun W hW => ?_)
  have hne : lp ≠ lb := fun e => HVL.out (by rw [e]; rfl)
  have BW : BlkL W lp side most (.slice (some ⟨lb, 0, none⟩) n cap) u := Blk.eqv hW ((H1.b.off hne).off hne)
  have RW : RowL W (.slice (some ⟨lb, 0, none⟩) n cap) n (updF f i ⟨(f i).price, (f i).qty - q, 0, (f i).queue⟩) := hW ▸ (H1.r.set (updF f i ⟨(f i).price, (f i).qty - q, (f i).orders, (f i).queue⟩) (j0 := 1) (by omega) (fun a b ha hb => by
        unfold updF lvC
        by_cases c : a = i
        · subst c
          rcases (show b = 0 ∨ b = 1 ∨ b = 2 ∨ b = 3 by omega) with rfl | rfl | rfl | rfl <;> simp
        · simp [c])).set _ (j0 := 2) (by omega) (fun a b ha hb => by
        unfold updF lvC
        by_cases c : a = i
        · subst c
          rcases (show b = 0 ∨ b = 1 ∨ b = 2 ∨ b = 3 by omega) with rfl | rfl | rfl | rfl <;> simp
        · simp [c])
  have FW : Fr [lb] w W := Fr.eqv hW (Fr.setIn (by simp) (Fr.setIn (by simp) (F1.mono (by simp))))
  have hcell : ∀ i, i < 4 → W.cell? ⟨lp, 3 + i, none⟩ = some (.int .u64 (u i : Int)) := by
    intro i hi
    rcases (show i = 0 ∨ i = 1 ∨ i = 2 ∨ i = 3 by omega) with rfl | rfl | rfl | rfl
    · exact (BW.cell 3).trans rfl
    · exact (BW.cell 4).trans rfl
    · exact (BW.cell 5).trans rfl
    · exact (BW.cell 6).trans rfl
  obtain ⟨a, ha⟩ : ∃ a, k / 64 = a := ⟨_, rfl⟩
  obtain ⟨b, hb⟩ : ∃ b, k % 64 = b := ⟨_, rfl⟩
  have x := hcell a (by omega)
  have ux := HX.out.word a (by omega)
  have hf := BW.frozen
  have k0 : (0 : Int) ≤ (k : Int) := by omega
  have k3 : a < 4 := by omega
  have k4 : (a : Int) < 4 := by omega
  have k6 : (0 : Int) ≤ (a : Int) := by omega
  have k5 : b < 64 := by omega
  have k7 : (b : Int) < 64 := by omega
  have k8 : (0 : Int) ≤ (b : Int) := by omega
  have lw := BW.lt
  have c2 : W.cell? ⟨lp, 2, none⟩ = some (.slice (some ⟨lb, 0, none⟩) n cap) := (BW.cell 2).trans rfl
  have a2 : ¬ 2 = 3 + a := by omega
  have a3 : ¬ 3 + a = 2 := by omega
  have HA := Lib.hid ha
  have HB := Lib.hid hb
  clear hcell hW c m0 m1 m2 m3 fb B F1 H1 ha hb
  refine u_region (S := fun w' => w'.cell? ⟨lp, 3 + a, none⟩ = some (.int .u64 (u a : Int))) 14 (by kernel_rfl) (by kernel_rfl) (by kernel_rfl) (by kernel_rfl) (by kernel_rfl) x ?_
  (refine u_take 0 (v := ?_) rfl rfl (by kernel_rfl) (by kernel_rfl) (fun _ _ _ h => h) (Or.inl ⟨by rfl, ?_⟩) ?_; rotate_left; (focus (intro wz hSw; (try dsimp only at hSw); go_simp; (try with_reducible rfl))); (try simp only [Act.put, List.getElem_toArray, List.getElem_cons_succ, List.getElem_cons_zero, List.setIfInBounds_toArray, List.set_cons_zero, List.set_cons_succ]))
  (refine u_take 1 (v := ?_) rfl rfl (by kernel_rfl) (by kernel_rfl) (fun _ _ _ h => h) (Or.inl ⟨by rfl, ?_⟩) ?_; rotate_left; (focus (intro wz hSw; (try dsimp only at hSw); go_simp; (try with_reducible rfl))); (try simp only [Act.put, List.getElem_toArray, List.getElem_cons_succ, List.getElem_cons_zero, List.setIfInBounds_toArray, List.set_cons_zero, List.set_cons_succ]))
  (refine u_take 2 (v := .int .i64 (a : Int)) rfl rfl (by kernel_rfl) (by kernel_rfl) (fun _ _ _ h => h) (Or.inl ⟨by rfl, ?_⟩) ?_; (focus (intro wz hSw; go_simp; rw [Go.IntWalk.i64_in _ (by omega), show (k : Int) / 64 = (a : Int) by have := HA.out; omega])); (try simp only [Act.put, List.getElem_toArray, List.getElem_cons_succ, List.getElem_cons_zero, List.setIfInBounds_toArray, List.set_cons_zero, List.set_cons_succ]))
  (refine u_take 3 (v := ?_) rfl rfl (by kernel_rfl) (by kernel_rfl) (fun _ _ _ h => h) (Or.inl ⟨by rfl, ?_⟩) ?_; rotate_left; (focus (intro wz hSw; (try dsimp only at hSw); go_simp; (try with_reducible rfl))); (try simp only [Act.put, List.getElem_toArray, List.getElem_cons_succ, List.getElem_cons_zero, List.setIfInBounds_toArray, List.set_cons_zero, List.set_cons_succ]))
  (refine u_take 4 (v := ?_) rfl rfl (by kernel_rfl) (by kernel_rfl) (fun _ _ _ h => h) (Or.inl ⟨by rfl, ?_⟩) ?_; rotate_left; (focus (intro wz hSw; (try dsimp only at hSw); go_simp; (try with_reducible rfl))); (try simp only [Act.put, List.getElem_toArray, List.getElem_cons_succ, List.getElem_cons_zero, List.setIfInBounds_toArray, List.set_cons_zero, List.set_cons_succ]))
  (refine u_take 5 (v := ?_) rfl rfl (by kernel_rfl) (by kernel_rfl) (fun _ _ _ h => h) (Or.inl ⟨by rfl, ?_⟩) ?_; rotate_left; (focus (intro wz hSw; (try dsimp only at hSw); go_simp; (try with_reducible rfl))); (try simp only [Act.put, List.getElem_toArray, List.getElem_cons_succ, List.getElem_cons_zero, List.setIfInBounds_toArray, List.set_cons_zero, List.set_cons_succ]))
  (refine u_take 6 (v := ?_) rfl rfl (by kernel_rfl) (by kernel_rfl) (fun _ _ _ h => h) (Or.inl ⟨by rfl, ?_⟩) ?_; rotate_left; (focus (intro wz hSw; (try dsimp only at hSw); go_simp; (try with_reducible rfl))); (try simp only [Act.put, List.getElem_toArray, List.getElem_cons_succ, List.getElem_cons_zero, List.setIfInBounds_toArray, List.set_cons_zero, List.set_cons_succ]))
  (refine u_take 7 (v := ?_) rfl rfl (by kernel_rfl) (by kernel_rfl) (fun _ _ _ h => h) (Or.inl ⟨by rfl, ?_⟩) ?_; rotate_left; (focus (intro wz hSw; (try dsimp only at hSw); go_simp; (try with_reducible rfl))); (try simp only [Act.put, List.getElem_toArray, List.getElem_cons_succ, List.getElem_cons_zero, List.setIfInBounds_toArray, List.set_cons_zero, List.set_cons_succ]))
  (refine u_take 8 (v := .int .i64 (b : Int)) rfl rfl (by kernel_rfl) (by kernel_rfl) (fun _ _ _ h => h) (Or.inl ⟨by rfl, ?_⟩) ?_; (focus (intro wz hSw; go_simp; rw [Int.tmod_eq_emod_of_nonneg (by omega)]; have := HB.out; omega)); (try simp only [Act.put, List.getElem_toArray, List.getElem_cons_succ, List.getElem_cons_zero, List.setIfInBounds_toArray, List.set_cons_zero, List.set_cons_succ]))
  (refine u_take 9 (v := ?_) rfl rfl (by kernel_rfl) (by kernel_rfl) (fun _ _ _ h => h) (Or.inl ⟨by rfl, ?_⟩) ?_; rotate_left; (focus (intro wz hSw; (try dsimp only at hSw); go_simp; (try with_reducible rfl))); (try simp only [Act.put, List.getElem_toArray, List.getElem_cons_succ, List.getElem_cons_zero, List.setIfInBounds_toArray, List.set_cons_zero, List.set_cons_succ]))
  (refine u_take 10 (v := ?_) rfl rfl (by kernel_rfl) (by kernel_rfl) (fun _ _ _ h => h) (Or.inl ⟨by rfl, ?_⟩) ?_; rotate_left; (focus (intro wz hSw; (try dsimp only at hSw); go_simp; (try with_reducible rfl))); (try simp only [Act.put, List.getElem_toArray, List.getElem_cons_succ, List.getElem_cons_zero, List.setIfInBounds_toArray, List.set_cons_zero, List.set_cons_succ]))
  (refine u_take 11 (v := ?_) rfl rfl (by kernel_rfl) (by kernel_rfl) (fun _ _ _ h => h) (Or.inl ⟨by rfl, ?_⟩) ?_; rotate_left; (focus (intro wz hSw; (try dsimp only at hSw); go_simp; (try with_reducible rfl))); (try simp only [Act.put, List.getElem_toArray, List.getElem_cons_succ, List.getElem_cons_zero, List.setIfInBounds_toArray, List.set_cons_zero, List.set_cons_succ]))
  (refine u_take 12 (v := ?_) rfl rfl (by kernel_rfl) (by kernel_rfl) (fun _ _ _ h => h) (Or.inl ⟨by rfl, ?_⟩) ?_; rotate_left; (focus (intro wz hSw; (try dsimp only at hSw); go_simp; (try with_reducible rfl))); (try simp only [Act.put, List.getElem_toArray, List.getElem_cons_succ, List.getElem_cons_zero, List.setIfInBounds_toArray, List.set_cons_zero, List.set_cons_succ]))
  (refine u_take 13 (v := ?_) rfl rfl (by kernel_rfl) (by kernel_rfl) (fun _ _ _ h => h) (Or.inl ⟨by rfl, ?_⟩) ?_; rotate_left; (focus (intro wz hSw; (try dsimp only at hSw); go_simp; (try with_reducible rfl))); (try simp only [Act.put, List.getElem_toArray, List.getElem_cons_succ, List.getElem_cons_zero, List.setIfInBounds_toArray, List.set_cons_zero, List.set_cons_succ]))
  refine u_last (by kernel_rfl) rfl (by kernel_rfl) ?_
  have n1000 : n ≤ 1000 := by have := HX.out.r.hn; omega
  have hne' : lb ≠ lp := fun e => hne e.symm
  have R5 : RowL (W.drew.setCell ⟨lp, 3 + a, none⟩ (.int .u64 (bits .andNot .u64 (u a : Int) (IntKind.u64.wrap (2 ^ b))))) (.slice (some ⟨lb, 0, none⟩) n cap) n (updF f i ⟨(f i).price, (f i).qty - q, 0, (f i).queue⟩) :=
    RW.via (Fr.setIn (S := [lp]) List.mem_cons_self (Fr.drew (Fr.refl _ _))) (fun g hg => by cases hg; simpa using hne')
  have B5 : BlkL (W.drew.setCell ⟨lp, 3 + a, none⟩ (.int .u64 (bits .andNot .u64 (u a : Int) (IntKind.u64.wrap (2 ^ b))))) lp side most (.slice (some ⟨lb, 0, none⟩) n cap) (clrU u k) := by
    rw [bit_andNot ux k5]
    refine Blk.cast (BW.drew.same (3 + a) _) ?_
    have e1 := HA.out
    have e2 := HB.out
    rcases (show a = 0 ∨ a = 1 ∨ a = 2 ∨ a = 3 by omega) with rfl | rfl | rfl | rfl <;> simp [clrU, e1, e2]
  have F5 : Fr [lp, lb] w (W.drew.setCell ⟨lp, 3 + a, none⟩ (.int .u64 (bits .andNot .u64 (u a : Int) (IntKind.u64.wrap (2 ^ b))))) := Fr.setIn (by simp) (Fr.drew (FW.mono (by simp)))
  have HD := Lib.hid (delete_any _ lb n cap i _ R5 hj n1000)
  clear R5
  go_wp2_with fail
  refine HD.out.mono ?_
  rintro e w6 ⟨rfl, R6, F6⟩
  have B6 := Blk.via F6 (by simpa using hne) B5
  have b6 := B6.frozen
  have d6 := B6.cell
  have l6 := B6.lt
  clear hf x c2
  go_wp2_with fail
  go_ret2
  rw [delF_upd] at R6
  refine ⟨by rw [HK.out]; rfl, ?_, .slice (some ⟨lb, 0, none⟩) (n - 1) cap, clrU u k, rfl, HX.out.del hj HK.out rfl ((B6.same 2 _).cast rfl) (R6.via (Fr.setIn (S := [lp]) List.mem_cons_self (Fr.refl _ _)) (fun g hg => by cases hg; simpa using hne'))⟩
  exact Fr.setIn (by simp) ((F5.mono (by simp [Value.ownBlock])).trans (F6.mono (by simp [Value.ownBlock])))
end Go.Proofs.Ytkimldeagndgjaa
