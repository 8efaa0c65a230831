/- copy and append of zeros on rows of structs. No program stands in this text. -/
import Derived.Test.YtkimldeagndgjaaApp
import Derived.Laws.CopyOwn
import Derived.Lib.AppendZerosOnto
namespace Go.Proofs.Ytkimldeagndgjaa
set_option linter.unusedVariables false
set_option linter.unusedSimpArgs false
open Go.RowKit

section
variable {P : Program} (w : World)
theorem run_copyS (dT sT ty elem : TypeId) (s g o dLen dCap : Nat) (a : Addr) (sLen sCap : Nat) (cur : Array Value) (t : TypeId) (cs : List Value)
    (hu : P.underlying dT = some (.slice elem)) (hs : (P.info? elem).map (·.size) = some s)
    (hg : w.heap[g]? = some (.cells cur t (0, 0))) (hn : cs.length = Nat.min sLen dLen * s)
    (hsrc : ∀ j v, cs[j]? = some v → w.cell? (a.add j) = some v) (hfit : o + cs.length ≤ cur.size) (h1 : ∀ v ∈ cs, v.oneCell' = true) :
    (Builtin.copy_ #[dT, sT] ty #[.slice (some ⟨g, o, none⟩) dLen dCap, .slice (some a) sLen sCap]).run P w =
      .ok (goInt (Nat.min sLen dLen)) (w.setRow g (cur.toList.take o ++ cs ++ cur.toList.drop (o + cs.length)).toArray) := by
  have hl := run_loadCells_list (P := P) w a cs hsrc
  have hst := run_storeCells_at P g o t cs 0 cur w hg (by simpa using hfit) h1
  cases hq : P.info? elem with
  | none => simp [hq] at hs
  | some i =>
    have hi : i.size = s := by simpa [hq] using hs
    simp [Builtin.copy_, run_underlying hu, Builtin.lenOf, Builtin.firstCells, sizeOf, typeInfo, hq, hi, ← hn, hl, hst]

theorem wp_copyS {o : Oper} {a : Act} {K : Act → World → Prop} {Q : Exit → Act → World → Prop} (d x : Operand) (dT sT : TypeId)
    (ho : o.op = .call { callee := .builtin .copy, args := #[d, x], argTypes := #[dT, sT] })
    (elem : TypeId) (s : Nat) (hu : P.underlying dT = some (.slice elem)) (hs : (P.info? elem).map (·.size) = some s)
    (g off dLen dCap : Nat) (ad : Addr) (sLen sCap : Nat) (hd : a.eval d = .slice (some ⟨g, off, none⟩) dLen dCap) (hx : a.eval x = .slice (some ad) sLen sCap)
    (cur : Array Value) (t : TypeId) (B : Blk w g t cur) (cs : List Value) (hn : cs.length = Nat.min sLen dLen * s)
    (hsrc : ∀ j v, cs[j]? = some v → w.cell? (ad.add j) = some v) (hfit : off + cs.length ≤ cur.size) (h1 : ∀ v ∈ cs, v.oneCell' = true)
    (h : ∀ w', Blk w' g t (cur.toList.take off ++ cs ++ cur.toList.drop (off + cs.length)).toArray → Fr [g] w w' → K (a.put o.dst (goInt (Nat.min sLen dLen))) w') : o.wp P a w K Q := by
  have hrun := run_copyS (P := P) w dT sT o.type elem s g off dLen dCap ad sLen sCap cur t cs hu hs B hn hsrc hfit h1
  unfold Oper.wp execOp
  simp only [ho, resolve, invoke, builtin, Sem.run_bind, Sem.run_pure, Result.andThen_ok, List.map_toArray, List.map_cons, List.map_nil, hd, hx, hrun]
  refine h _ (setRow_heap w g cur _ t _ B) ⟨rfl, rfl, rfl, by simp [World.setRow], fun k _ hk => setRow_other w g k _ (fun e => hk (by simp [e]))⟩
theorem wpList_copyS {ops : Array Oper} {rest : List Oper} {o : Oper} {a : Act} {Q : Exit → Act → World → Prop} (hgd : o.guard = none) (d x : Operand) (dT sT : TypeId)
    (ho : o.op = .call { callee := .builtin .copy, args := #[d, x], argTypes := #[dT, sT] })
    (elem : TypeId) (s : Nat) (hu : P.underlying dT = some (.slice elem)) (hs : (P.info? elem).map (·.size) = some s)
    (g off dLen dCap : Nat) (ad : Addr) (sLen sCap : Nat) (hd : a.eval d = .slice (some ⟨g, off, none⟩) dLen dCap) (hx : a.eval x = .slice (some ad) sLen sCap)
    (cur : Array Value) (t : TypeId) (B : Blk w g t cur) (cs : List Value) (hn : cs.length = Nat.min sLen dLen * s)
    (hsrc : ∀ j v, cs[j]? = some v → w.cell? (ad.add j) = some v) (hfit : off + cs.length ≤ cur.size) (h1 : ∀ v ∈ cs, v.oneCell' = true)
    (h : ∀ w', Blk w' g t (cur.toList.take off ++ cs ++ cur.toList.drop (off + cs.length)).toArray → Fr [g] w w' → wpList P ops Q rest (a.put o.dst (goInt (Nat.min sLen dLen))) w') : wpList P ops Q (o :: rest) a w :=
  wpList_plain hgd fun _ hK => wp_copyS w d x dT sT ho elem s hu hs g off dLen dCap ad sLen sCap hd hx cur t B cs hn hsrc hfit h1 fun w' h2 h3 => hK _ _ (h w' h2 h3)
theorem step_copyS {ops : Array Oper} {o : Oper} {a : Act} {K : Act → World → Prop} {Q : Exit → Act → World → Prop} {E : Prop} (hgd : o.guard = none) (d x : Operand) (dT sT : TypeId)
    (ho : o.op = .call { callee := .builtin .copy, args := #[d, x], argTypes := #[dT, sT] })
    (elem : TypeId) (s : Nat) (hu : P.underlying dT = some (.slice elem)) (hs : (P.info? elem).map (·.size) = some s)
    (g off dLen dCap : Nat) (ad : Addr) (sLen sCap : Nat) (hd : a.eval d = .slice (some ⟨g, off, none⟩) dLen dCap) (hx : a.eval x = .slice (some ad) sLen sCap)
    (cur : Array Value) (t : TypeId) (B : Blk w g t cur) (cs : List Value) (hn : cs.length = Nat.min sLen dLen * s)
    (hsrc : ∀ j v, cs[j]? = some v → w.cell? (ad.add j) = some v) (hfit : off + cs.length ≤ cur.size) (h1 : ∀ v ∈ cs, v.oneCell' = true)
    (h : ∀ w', Blk w' g t (cur.toList.take off ++ cs ++ cur.toList.drop (off + cs.length)).toArray → Fr [g] w w' → K (a.put o.dst (goInt (Nat.min sLen dLen))) w') :
    if Region.wanted o (yielded ops a.tmps) = true then Oper.wp P o a w K Q else E := by
  rw [if_pos (by simp [Region.wanted, hgd])]
  exact wp_copyS w d x dT sT ho elem s hu hs g off dLen dCap ad sLen sCap hd hx cur t B cs hn hsrc hfit h1 h

/-- append(s, make([]T, k)...) where there is no room. -/
theorem wpList_appZ {ops : Array Oper} {rest : List Oper} {o : Oper} {a : Act} {Q : Exit → Act → World → Prop} (hgd : o.guard = none) (s x : Operand) (t tn : TypeId)
    (ho : o.op = .call { callee := .builtin .append, args := #[s, x], argTypes := #[t, tn] })
    (e : TypeId) (i : TypeInfo) (z : Value) (size : Nat) (kq kn : IntKind) (ht : P.underlying t = some (.slice e)) (htn : P.underlying tn = some (.int kn)) (hi : P.info? e = some i) (hz : i.zero = some z) (hsz : i.size = size) (hzs : z.cells.size = size) (hpos : 0 < size) (hby : i.bytes ≤ 1000000)
    (g n cap k : Nat) (hs : a.eval s = .slice (some ⟨g, 0, none⟩) n cap) (hx : a.eval x = .int kq (k : Int)) (cur : Array Value) (t' : TypeId) (B : Blk w g t' cur) (hc : cur.size = cap * size) (hnc : n ≤ cap) (h0 : 0 < k) (hg : cap < n + k) (hb : n + k ≤ 1000000) (len : Nat) (hlen : n + k = len)
    (h : ∀ w' cap' new, len ≤ cap' → Blk w' w.heap.size e new → new.size = cap' * size → (∀ j, j < n * size → new[j]? = cur[j]?) → Fr [] w w' → wpList P ops Q rest (a.put o.dst (.slice (some ⟨w.heap.size, 0, none⟩) len cap')) w') : wpList P ops Q (o :: rest) a w := by
  subst hsz
  subst hlen
  have hle : n * i.size ≤ cap * i.size := Nat.mul_le_mul_right _ hnc
  have hold : (Builtin.firstCells i.size n (.slice (some ⟨g, 0, none⟩) n cap)).run P w.drew = .ok (cur.toList.take (n * i.size)).toArray w.drew := by
    have hl := run_loadCells_list (P := P) w.drew ⟨g, 0, none⟩ (cur.toList.take (n * i.size)) (fun j v hj => by
      have hjl := (List.getElem?_eq_some_iff.1 hj).1
      rw [List.length_take] at hjl
      rw [List.getElem?_take_of_lt (by omega)] at hj
      have : (⟨g, 0, none⟩ : Addr).add j = ⟨g, j, none⟩ := by unfold Addr.add; split <;> simp_all
      rw [this, (B.drew).cell j]
      simpa using hj)
    have hlen : (cur.toList.take (n * i.size)).length = n * i.size := by rw [List.length_take]; simp; omega
    rw [hlen] at hl
    simpa [Builtin.firstCells] using hl
  have hk1 : k * i.bytes ≤ 1000000 * 1000000 := Nat.mul_le_mul (by omega) hby
  have hrun := Lib.run_append_grow_zeros (P := P) w t tn o.type e i z kq kn ht htn hi hz (some ⟨g, 0, none⟩) n cap (cur.toList.take (n * i.size)) hold k h0 hpos hg (by omega) (by omega)
    (growslice_fits (by omega) (Nat.le_trans (Nat.mul_le_mul hb hby) (by omega)))
  refine wpList_plain hgd fun Kq hKq => ?_
  unfold Oper.wp execOp
  simp only [ho, resolve, invoke, builtin, Sem.run_bind, Sem.run_pure, Result.andThen_ok, List.map_toArray, List.map_cons, List.map_nil, hs, hx, hrun]
  have hge := grownCap_ge w (n + k) cap e
  refine hKq _ _ (h _ _ _ hge (Blk.new _ _ _) ?_ (fun j hj => ?_) ?_)
  · simp only [Array.size_append, List.size_toArray, size_zeroCells, hzs, List.length_take, Array.length_toList, hc]
    rw [Nat.min_eq_left hle, ← Nat.add_mul, ← Nat.add_mul]
    congr 1
    omega
  · have hl1 : j < (cur.toList.take (n * i.size)).toArray.size := by simp; omega
    rw [Array.getElem?_append_left (by simp only [Array.size_append]; omega), Array.getElem?_append_left hl1]
    simp [hj]
  · exact (Fr.drew (Fr.refl _ _)).alloc _
/-- append behind a row of structs, nil let in. -/
theorem run_appS (t ty e : TypeId) (i : TypeInfo) (z : Value) (size : Nat) (ht : P.underlying t = some (.slice e)) (hi : P.info? e = some i) (hz : i.zero = some z) (hsz : i.size = size) (hzs : z.cells.size = size) (hpos : 0 < size) (hby : i.bytes ≤ 1000000)
    (v : Value) (n : Nat) (hv : (v = .slice none 0 0 ∧ n = 0) ∨ ∃ g cap cur, v = .slice (some ⟨g, 0, none⟩) n cap ∧ n ≤ cap ∧ Blk w g e cur ∧ cur.size = cap * size)
    (a : Addr) (m c : Nat) (news : List Value) (hl : news.length = m * size) (hnews : ∀ j u, news[j]? = some u → w.cell? (a.add j) = some u) (h1 : ∀ u ∈ news, u.oneCell' = true) (hm : 0 < m) (hb : n + m ≤ 1000000) :
    ∃ g' cap' new w', (Builtin.append_ #[t, t] ty #[v, .slice (some a) m c]).run P w = .ok (.slice (some ⟨g', 0, none⟩) (n + m) cap') w' ∧ n + m ≤ cap' ∧ Blk w' g' e new ∧ new.size = cap' * size ∧
      (∀ g cap, v = .slice (some ⟨g, 0, none⟩) n cap → ∀ j, j < n * size → new[j]? = w.cell? ⟨g, j, none⟩) ∧ (∀ j, j < m * size → new[n * size + j]? = news[j]?) ∧ Fr v.ownBlock.toList w w' ∧ (v.ownBlock = some g' ∨ g' = w.heap.size) := by
  subst hsz
  have hk : (n + m) * i.bytes ≤ 1000000 * 1000000 := Nat.mul_le_mul hb hby
  rcases hv with ⟨rfl, rfl⟩ | ⟨g, cap, cur, rfl, hnc, B, hcs⟩
  · have hr := run_append_nil (P := P) w t ty e i z ht hi hz a m c news hl hnews hm (by omega) (by simp only [Nat.zero_add] at hk; omega)
    have hge := grownCap_ge w m 0 e
    rw [Nat.zero_add]
    refine ⟨_, _, _, _, hr, hge, Blk.new _ _ _, ?_, fun g cap h => (by cases h), fun j hj => ?_, (Fr.drew (Fr.refl _ _)).alloc _, .inr rfl⟩
    · simp only [Array.size_append, List.size_toArray, size_zeroCells, hzs, hl, ← Nat.add_mul]
      congr 1
      omega
    · rw [Nat.zero_mul, Nat.zero_add, Array.getElem?_append_left (by simp; omega)]
      simp
  · by_cases hroom : n + m ≤ cap
    · have hfit : n * i.size + news.length ≤ cur.size := by rw [hl, hcs, ← Nat.add_mul]; exact Nat.mul_le_mul_right _ hroom
      have hr := run_append_room (P := P) w t ty e i ht hi g n cap cur B a m c news hl hnews h1 hroom hfit
      refine ⟨g, cap, _, _, hr, hroom, setRow_heap w g cur _ e _ B, ?_, fun g' cap' h j hj => ?_, fun j hj => ?_, ⟨rfl, rfl, rfl, by simp [World.setRow], fun k _ hk => setRow_other w g k _ (fun e => hk (by simp [Value.ownBlock, e]))⟩, .inl rfl⟩
      · simp only [List.size_toArray, List.length_append, List.length_take, List.length_drop, Array.length_toList]
        omega
      · injection h with h
        injection h with h
        injection h with h
        subst h
        rw [B.cell j]
        simp only [List.getElem?_toArray]
        rw [List.append_assoc, List.getElem?_append_left (by rw [List.length_take, Array.length_toList]; omega), List.getElem?_take_of_lt hj]
        simp
      · simp only [List.getElem?_toArray]
        have hlo : (cur.toList.take (n * i.size)).length = n * i.size := by rw [List.length_take, Array.length_toList]; omega
        rw [List.append_assoc, List.getElem?_append_right (by omega), hlo, Nat.add_sub_cancel_left, List.getElem?_append_left (by omega)]
    · have hle : n * i.size ≤ cap * i.size := Nat.mul_le_mul_right _ hnc
      have hlo : (cur.toList.take (n * i.size)).length = n * i.size := by rw [List.length_take]; simp; omega
      have holds : ∀ j u, (cur.toList.take (n * i.size))[j]? = some u → w.cell? ((⟨g, 0, none⟩ : Addr).add j) = some u := by
        intro j u hj
        have hjl := (List.getElem?_eq_some_iff.1 hj).1
        rw [hlo] at hjl
        rw [List.getElem?_take_of_lt hjl] at hj
        have : (⟨g, 0, none⟩ : Addr).add j = ⟨g, j, none⟩ := by unfold Addr.add; split <;> simp_all
        rw [this, B.cell j]
        simpa using hj
      have hr := run_append_grow (P := P) w t ty e i z ht hi hz ⟨g, 0, none⟩ n cap (cur.toList.take (n * i.size)) hlo holds a m c news hl hnews (by omega) (by omega) (growslice_fits (by omega) (Nat.le_trans (Nat.mul_le_mul hb hby) (by omega)))
      have hge := grownCap_ge w (n + m) cap e
      refine ⟨_, _, _, _, hr, hge, Blk.new _ _ _, ?_, fun g' cap' h j hj => ?_, fun j hj => ?_, (Fr.drew (Fr.refl _ _)).alloc _, .inr rfl⟩
      · simp only [Array.size_append, List.size_toArray, size_zeroCells, hzs, hlo, hl, ← Nat.add_mul]
        congr 1
        omega
      · injection h with h
        injection h with h
        injection h with h
        subst h
        rw [B.cell j, Array.getElem?_append_left (by simp only [Array.size_append, List.size_toArray, hlo]; omega), Array.getElem?_append_left (by simp only [List.size_toArray, hlo]; omega)]
        simp [hj]
      · rw [Array.getElem?_append_left (by simp only [Array.size_append, List.size_toArray, hlo, hl]; omega), Array.getElem?_append_right (by simp only [List.size_toArray, hlo]; omega)]
        simp only [List.size_toArray, hlo, Nat.add_sub_cancel_left, List.getElem?_toArray]
end
end Go.Proofs.Ytkimldeagndgjaa
