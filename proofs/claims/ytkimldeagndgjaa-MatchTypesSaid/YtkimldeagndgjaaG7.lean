/- Words and contracts: Load Row OrdEq Guard. -/
import Derived.ProofKit
import Derived.OpenShut
import Derived.ChangeOld
import Derived.Deep.Slices
import Derived.Deep.Fields
import Derived.Test.YtkimldeagndgjaaG0
import Derived.Test.YtkimldeagndgjaaG3
/- A struct that is loaded out of the middle of a block. No program stands in this text. -/
namespace Go.Proofs.Ytkimldeagndgjaa
set_option linter.unusedVariables false
set_option linter.unusedSimpArgs false
open Go.RowKit

section
variable {P : Program}
theorem run_loadVar_cells (w : World) (p : Addr) (ty : TypeId) (cs : List Value) (d : TypeDesc) (hc : ∀ j v, cs[j]? = some v → w.cell? (p.add j) = some v)
    (hu : P.underlying ty = some d) (hd : (match d with | .struct _ | .array _ _ => true | _ => false) = true) (hi : (P.info? ty).map (·.size) = some cs.length) :
    (loadVar ty p).run P w = .ok (.agg cs.toArray) w := by
  have hl := run_loadCells_list (P := P) w p cs hc
  cases hq : P.info? ty with
  | none => simp [hq] at hi
  | some i =>
    have hs : i.size = cs.length := by simpa [hq] using hi
    have hagg : (isAgg ty).run P w = .ok true w := by
      unfold isAgg
      rw [Sem.run_bind, run_underlying hu w]
      cases d <;> simp_all
    simp [loadVar, Sem.run_bind, hagg, sizeOf, typeInfo, hq, hs, hl]
theorem cells_at {w : World} {g off : Nat} {cs : List Value} (h : ∀ j v, cs[j]? = some v → w.cell? ⟨g, off + j, none⟩ = some v) : ∀ j v, cs[j]? = some v → w.cell? ((⟨g, off, none⟩ : Addr).add j) = some v := by
  intro j v hj
  have e : (⟨g, off, none⟩ : Addr).add j = ⟨g, off + j, none⟩ := by unfold Addr.add; split <;> simp_all
  rw [e]; exact h j v hj
theorem exec_loadAt {a : Act} {o : Oper} {w : World} (ty : TypeId) (x : Operand) (g off : Nat) (cs : List Value) (d : TypeDesc) (ho : o.op = .load ty x)
    (hx : a.eval x = .pointer (some ⟨g, off, none⟩)) (hc : ∀ j v, cs[j]? = some v → w.cell? ⟨g, off + j, none⟩ = some v) (hu : P.underlying ty = some d) (hd : (match d with | .struct _ | .array _ _ => true | _ => false) = true) (hi : (P.info? ty).map (·.size) = some cs.length) : (execOp a.eval o).run P w = .ok (.value (.agg cs.toArray)) w := by
  unfold execOp
  simp only [ho, hx, Instr.loadAt, Instr.sureAddr, Sem.run_bind, Sem.run_pure, Result.andThen_ok, run_loadVar_cells w _ ty cs d (cells_at hc) hu hd hi]
theorem wpList_loadAt {ops : Array Oper} {rest : List Oper} {o : Oper} {a : Act} {w : World} {Q : Exit → Act → World → Prop} (hgd : o.guard = none) (ty : TypeId) (x : Operand) (ho : o.op = .load ty x)
    (g off : Nat) (hx : a.eval x = .pointer (some ⟨g, off, none⟩)) (cs : List Value) (d : TypeDesc) (hc : ∀ j v, cs[j]? = some v → w.cell? ⟨g, off + j, none⟩ = some v) (hu : P.underlying ty = some d) (hd : (match d with | .struct _ | .array _ _ => true | _ => false) = true) (hi : (P.info? ty).map (·.size) = some cs.length)
    (h : wpList P ops Q rest (a.put o.dst (.agg cs.toArray)) w) : wpList P ops Q (o :: rest) a w := by
  refine wpList_plain hgd fun Kq hKq => ?_
  unfold Oper.wp
  rw [exec_loadAt ty x g off cs d ho hx hc hu hd hi]
  exact hKq _ _ h
end
end Go.Proofs.Ytkimldeagndgjaa

/- What comes in: whole numbers and bools, structs of these by value, slices of these: opened to cells. -/
namespace Go.Proofs.Ytkimldeagndgjaa
set_option linter.unusedVariables false
set_option linter.unusedSimpArgs false
open Go.RowKit Go.ChangeShapes Go.WideShapes Go.Deep

def leafGo (P : Program) (f0 : TypeId → Option (List Bool)) : List Field → Nat → Option (List Bool)
  | [], _ => some []
  | f :: l, off => if f.offset = off then (f0 f.type).bind fun ks => if P.cellsOf f.type = ks.length then (leafGo P f0 l (off + ks.length)).map (ks ++ ·) else none else none
/-- The leaves of a type of structs of int64 (true) and bool (false) alone, in the order of its cells. -/
def leaves (P : Program) : Nat → TypeId → Option (List Bool)
  | 0, _ => none
  | n + 1, t => match P.underlying t with
    | some (.int .i64) => some [true]
    | some .bool => some [false]
    | some (.struct fs) => (leafGo P (leaves P n) fs.toList 0).bind fun ks => if P.cellsOf t = ks.length then some ks else none
    | _ => none

/-- Cells of such leaves. -/
inductive Leafs : List Value → List Bool → Prop
  | nil : Leafs [] []
  | int {z : Int} {cs : List Value} {ks : List Bool} (hz : -9223372036854775808 ≤ z ∧ z ≤ 9223372036854775807) (h : Leafs cs ks) : Leafs (.int .i64 z :: cs) (true :: ks)
  | bool {b : Bool} {cs : List Value} {ks : List Bool} (h : Leafs cs ks) : Leafs (.bool b :: cs) (false :: ks)

theorem Leafs.append {a b : List Value} {k l : List Bool} (h : Leafs a k) (h' : Leafs b l) : Leafs (a ++ b) (k ++ l) := by
  induction h with
  | nil => exact h'
  | int hz _ ih => exact .int hz ih
  | bool _ ih => exact .bool ih
theorem Leafs.int_inv {cs : List Value} {ks : List Bool} (h : Leafs cs (true :: ks)) : ∃ (z : Int) (r : List Value), cs = .int .i64 z :: r ∧ (-9223372036854775808 ≤ z ∧ z ≤ 9223372036854775807) ∧ Leafs r ks := by
  cases h with | int hz h => exact ⟨_, _, rfl, hz, h⟩
theorem Leafs.bool_inv {cs : List Value} {ks : List Bool} (h : Leafs cs (false :: ks)) : ∃ (b : Bool) (r : List Value), cs = .bool b :: r ∧ Leafs r ks := by
  cases h with | bool h => exact ⟨_, _, rfl, h⟩
theorem Leafs.nil_inv {cs : List Value} (h : Leafs cs []) : cs = [] := by cases h; rfl
theorem Leafs.ints {cs : List Value} {n : Nat} (h : Leafs cs (List.replicate n true)) : cs.length = n ∧ ∀ j, j < n → ∃ z : Int, cs[j]? = some (.int .i64 z) ∧ (-9223372036854775808 ≤ z ∧ z ≤ 9223372036854775807) := by
  induction n generalizing cs with
  | zero => cases h; exact ⟨rfl, fun _ h => by omega⟩
  | succ n ih =>
    obtain ⟨z, r, rfl, hz, h'⟩ := Leafs.int_inv h
    obtain ⟨h1, h2⟩ := ih h'
    refine ⟨by simp [h1], fun j hj => ?_⟩
    cases j with
    | zero => exact ⟨z, rfl, hz⟩
    | succ j => exact h2 j (by omega)

theorem wf64 {x : Int} (h : (Lit.int .i64 x).wf = true) : -9223372036854775808 ≤ x ∧ x ≤ 9223372036854775807 := by
  simp only [Lit.wf, Bool.and_eq_true, decide_eq_true_eq] at h
  exact h

section
variable {H : Type} {enc : TypeId × Value → H} {P : Program} {w : World} {base : Nat} {spare : Nat → Bool} {held : Bool}

theorem leaves_read : ∀ (n : Nat) (t : TypeId) (ks : List Bool) (fuel : Nat) (cs : List Value) (x : DataW H × List MemPlace), leaves P n t = some ks → DataW.trod enc P w base spare held fuel t cs = some x → Leafs cs ks := by
  intro n
  induction n with
  | zero => intro t ks fuel cs x h; simp [leaves] at h
  | succ n ih =>
    intro t ks fuel cs x h hx
    unfold leaves at h
    split at h
    · rename_i hu
      obtain ⟨z, rfl, _, hz⟩ := DataW.trod_int hu hx
      cases h
      refine .int ?_ .nil
      simp only [Lit.wf, Bool.and_eq_true, decide_eq_true_eq] at hz
      exact hz
    · rename_i hu
      obtain ⟨b, rfl, _⟩ := DataW.trod_bool hu hx
      cases h
      exact .bool .nil
    · rename_i fs hu
      obtain ⟨xs, m, rfl, _, hlen, _, hf⟩ := DataW.trod_struct hu hx
      simp only [Option.bind_eq_some_iff] at h
      obtain ⟨ks', hg, h⟩ := h
      split at h
      · rename_i hC
        cases h
        rw [hC] at hlen
        have key : ∀ (l : List Field) (off : Nat) (ks : List Bool), leafGo P (leaves P n) l off = some ks → (∀ (i : Nat) (f : Field), l[i]? = some f → ∃ (y : DataW H × List MemPlace), DataW.trod enc P w base spare held m f.type ((cs.drop f.offset).take (P.cellsOf f.type)) = some y) → Leafs ((cs.drop off).take ks.length) ks := by
          intro l
          induction l with
          | nil => intro off ks h _; simp [leafGo] at h; subst h; simpa using Leafs.nil
          | cons f l ihl =>
            intro off ks h hall
            simp only [leafGo] at h
            split at h
            · rename_i ho
              simp only [Option.bind_eq_some_iff] at h
              obtain ⟨k1, h1, h⟩ := h
              split at h
              · rename_i hc
                simp only [Option.map_eq_some_iff] at h
                obtain ⟨k2, h2, rfl⟩ := h
                obtain ⟨y, hy⟩ := hall 0 f rfl
                rw [ho, hc] at hy
                have a1 := ih f.type k1 m _ _ h1 hy
                have a2 := ihl _ _ h2 (fun i f' hf' => hall (i + 1) f' hf')
                have e : (cs.drop off).take (k1 ++ k2).length = (cs.drop off).take k1.length ++ (cs.drop (off + k1.length)).take k2.length := by
                  rw [List.length_append, List.take_add, List.drop_drop]
                rw [e]
                exact a1.append a2
              · cases h
            · cases h
        have := key fs.toList 0 _ hg (fun i f hi => by
          have h0 := hf i f (by simpa using hi)
          rcases h1 : xs[i]? with _ | y
          · rename_i hl
            rw [List.getElem?_eq_none_iff] at h1
            have := (List.getElem?_eq_some_iff.1 hi).1
            simp at this
            omega
          · rw [h1] at h0; exact ⟨y, h0⟩)
        rw [List.drop_zero, List.take_of_length_le (by omega)] at this
        exact this
      · cases h
    · cases h

/-- A struct by value, opened. -/
theorem open_leaves {r : Reach} {b0 : Nat} {t : TypeId} {fs : Array Field} {v : Value} {d : DataW H} {p : List MemPlace} {ks : List Bool} (hs : P.underlying t = some (.struct fs)) (hk : leaves P 5 t = some ks)
    (hv : Value.okWide P w r b0 t v) (h : DataW.Trod enc P w base spare held t v d p) : ∃ cs : List Value, v = .agg cs.toArray ∧ Leafs cs ks := by
  obtain ⟨cs, rfl, _⟩ := okWide_struct hs hv
  obtain ⟨fuel, hf⟩ := h
  refine ⟨cs.toList, by simp, leaves_read _ _ _ _ _ _ hk (by simpa [Value.cells] using hf)⟩

/-- A row of n elements of m whole numbers each, as a slice's address A shows it. -/
def IntRow (w : World) (A : Option Addr) (n m : Nat) (F : Nat → Nat → Int) : Prop :=
  (∀ i j, -9223372036854775808 ≤ F i j ∧ F i j ≤ 9223372036854775807) ∧ (0 < n → ∃ b off, A = some ⟨b, off, none⟩ ∧ b < w.heap.size ∧ ∀ i j, i < n → j < m → w.cell? ⟨b, off + (i * m + j), none⟩ = some (.int .i64 (F i j)))

theorem IntRow.below {A : Option Addr} {n m : Nat} {F : Nat → Nat → Int} {w' : World} (h : IntRow w A n m F) (hb : Below w.heap.size w w') : IntRow w' A n m F :=
  ⟨h.1, fun hn => by
    obtain ⟨b, off, e, hl, hc⟩ := h.2 hn
    exact ⟨b, off, e, Nat.lt_of_lt_of_le hl hb.size, fun i j hi hj => (hb.cell (p := ⟨b, off + (i * m + j), none⟩) hl).trans (hc i j hi hj)⟩⟩

/-- A slice of structs of whole numbers, opened. -/
theorem open_rows {t e : TypeId} {m : Nat} {A : Option Addr} {len cap : Nat} {d : DataW H} {p : List MemPlace} (ht : P.underlying t = some (.slice e)) (hk : leaves P 5 e = some (List.replicate m true)) (hm : 0 < m) (hC : P.cellsOf e = m)
    (h : DataW.Trod enc P w base spare held t (.slice A len cap) d p) : ∃ F : Nat → Nat → Int, IntRow w A len m F ∧ len ≤ maxLen := by
  obtain ⟨fuel, hf⟩ := h
  rcases open_slice ht hf with ⟨hcs, _⟩ | ⟨a, l, c, q, n, D, Pl, hcs, hb, hl, hmx, hq, hx, hi⟩
  · simp [Value.cells] at hcs
    obtain ⟨rfl, rfl, rfl⟩ := hcs
    exact ⟨fun _ _ => 0, ⟨fun _ _ => by dsimp only; omega, fun h => by omega⟩, by unfold maxLen; omega⟩
  · simp [Value.cells] at hcs
    obtain ⟨rfl, rfl, rfl⟩ := hcs
    have hlq : len ≤ q := by rw [hq]; split <;> omega
    have hel : ∀ i j, i < len → j < m → ∃ z : Int, w.cell? (a.add (i * m + j)) = some (.int .i64 z) ∧ (-9223372036854775808 ≤ z ∧ z ≤ 9223372036854775807) := by
      intro i j hil hj
      obtain ⟨cs', hc, ht'⟩ := hi i (by omega)
      rw [hC] at hc
      obtain ⟨_, hcl, hat⟩ := World.cells?_some hc
      obtain ⟨hlen, hz⟩ := (leaves_read _ _ _ _ _ _ hk ht').ints
      obtain ⟨z, hz1, hz2⟩ := hz j hj
      refine ⟨z, ?_, hz2⟩
      have h1 := hat j hj
      rw [hz1, Go.Deep.add_add] at h1
      exact h1
    obtain ⟨F, hF1, hF2⟩ : ∃ F : Nat → Nat → Int, (∀ i j, i < len → j < m → w.cell? (a.add (i * m + j)) = some (.int .i64 (F i j))) ∧ (∀ i j, -9223372036854775808 ≤ F i j ∧ F i j ≤ 9223372036854775807) := by
      refine ⟨fun i j => if h : i < len ∧ j < m then Classical.choose (hel i j h.1 h.2) else 0, fun i j hi hj => ?_, fun i j => ?_⟩
      · dsimp only
        rw [dif_pos ⟨hi, hj⟩]
        exact (Classical.choose_spec (hel i j hi hj)).1
      · dsimp only
        split
        · rename_i h; exact (Classical.choose_spec (hel i j h.1 h.2)).2
        · omega
    refine ⟨F, ⟨hF2, fun hn => ?_⟩, by omega⟩
    · obtain ⟨z, hz, _⟩ := hel 0 0 hn hm
      have hspot : a.spot = none := by
        simp only [Nat.zero_mul, Nat.add_zero] at hz
        unfold Addr.add at hz
        rw [if_pos rfl] at hz
        unfold World.cell? at hz
        split at hz
        · rename_i cs _ _ _
          rcases hsp : a.spot with _ | s
          · rfl
          · simp [hsp] at hz
        · cases hz
      have hblk : a.block < w.heap.size := by
        rcases Nat.lt_or_ge a.block w.heap.size with h | h
        · exact h
        · exfalso
          simp only [Nat.zero_mul, Nat.add_zero] at hz
          unfold Addr.add at hz
          rw [if_pos rfl] at hz
          unfold World.cell? at hz
          rw [Array.getElem?_eq_none h] at hz
          cases hz
      refine ⟨a.block, a.off, ?_, hblk, fun i j hil hj => ?_⟩
      · cases a; simp_all
      · have h1 := hF1 i j hil hj
        have e : a.add (i * m + j) = ⟨a.block, a.off + (i * m + j), none⟩ := by
          unfold Addr.add
          split
          · rename_i h0; rw [h0]; cases a; simp_all
          · rfl
        rw [e] at h1
        exact h1
end
end Go.Proofs.Ytkimldeagndgjaa

/- Orders that are compared, and taken out of a row that comes in. -/
namespace Go.Proofs.Ytkimldeagndgjaa
set_option linter.unusedVariables false
set_option linter.unusedSimpArgs false
open Go.RowKit

section
variable (w : World) (a1 a2 a3 a4 a5 a6 a7 b1 b2 b3 b4 b5 b6 b7 : Int)
theorem equalIn_ord (d : Nat) : (Op.equalIn (d + 2) 43 (.agg #[.int .i64 a1, .int .i64 a2, .int .i64 a3, .int .i64 a4, .int .i64 a5, .int .i64 a6, .int .i64 a7]) (.agg #[.int .i64 b1, .int .i64 b2, .int .i64 b3, .int .i64 b4, .int .i64 b5, .int .i64 b6, .int .i64 b7])).run Try.prog w =
    .ok (decide ((⟨a1, a2, a3, a4, a5, a6, a7⟩ : Ord) = ⟨b1, b2, b3, b4, b5, b6, b7⟩)) w := by
  rw [run_equalIn_agg _ _ _ _ _ (by kernel_rfl) (by kernel_rfl)]
  have e : ∀ x y : Int, (if (!(x == y)) = true then false else true) = (x == y) := fun x y => by cases x == y <;> rfl
  by_cases h1 : a1 = b1
  · by_cases h2 : a2 = b2
    · by_cases h3 : a3 = b3
      · by_cases h4 : a4 = b4
        · by_cases h5 : a5 = b5
          · by_cases h6 : a6 = b6
            · by_cases h7 : a7 = b7
              · subst h1 h2 h3 h4 h5 h6 h7
                go_simp
              · have g7 : (a7 == b7) = false := by simpa using h7
                go_simp
            · have g7 : (a6 == b6) = false := by simpa using h6
              go_simp
          · have g7 : (a5 == b5) = false := by simpa using h5
            go_simp
        · have g7 : (a4 == b4) = false := by simpa using h4
          go_simp
      · have g7 : (a3 == b3) = false := by simpa using h3
        go_simp
    · have g7 : (a2 == b2) = false := by simpa using h2
      go_simp
  · have g7 : (a1 == b1) = false := by simpa using h1
    go_simp
theorem eql_ord : (binOp .eql 43 (.agg #[.int .i64 a1, .int .i64 a2, .int .i64 a3, .int .i64 a4, .int .i64 a5, .int .i64 a6, .int .i64 a7]) (.agg #[.int .i64 b1, .int .i64 b2, .int .i64 b3, .int .i64 b4, .int .i64 b5, .int .i64 b6, .int .i64 b7])).run Try.prog w =
    .ok (.bool (decide ((⟨a1, a2, a3, a4, a5, a6, a7⟩ : Ord) = ⟨b1, b2, b3, b4, b5, b6, b7⟩))) w := by
  rw [run_eql_struct, equalIn_ord]; rfl
theorem neq_ord : (binOp .neq 43 (.agg #[.int .i64 a1, .int .i64 a2, .int .i64 a3, .int .i64 a4, .int .i64 a5, .int .i64 a6, .int .i64 a7]) (.agg #[.int .i64 b1, .int .i64 b2, .int .i64 b3, .int .i64 b4, .int .i64 b5, .int .i64 b6, .int .i64 b7])).run Try.prog w =
    .ok (.bool (!decide ((⟨a1, a2, a3, a4, a5, a6, a7⟩ : Ord) = ⟨b1, b2, b3, b4, b5, b6, b7⟩))) w := by
  rw [run_neq_struct, equalIn_ord]; rfl
end

theorem ord_dec (a1 a2 a3 a4 a5 a6 a7 b1 b2 b3 b4 b5 b6 b7 : Int) : (decide (a1 = b1) && (decide (a2 = b2) && (decide (a3 = b3) && (decide (a4 = b4) && (decide (a5 = b5) && (decide (a6 = b6) && decide (a7 = b7))))))) = decide ((⟨a1, a2, a3, a4, a5, a6, a7⟩ : Ord) = ⟨b1, b2, b3, b4, b5, b6, b7⟩) := by
  rw [Bool.eq_iff_iff]; simp
/-- The order in row k of what comes in. -/
def rowO (F : Nat → Nat → Int) (k : Nat) : Ord := ⟨F k 0, F k 1, F k 2, F k 3, F k 4, F k 5, F k 6⟩
theorem row_cells {w w' : World} {ab ao n k : Nat} {F : Nat → Nat → Int} (hc : ∀ i j, i < n → j < 7 → w.cell? ⟨ab, ao + (i * 7 + j), none⟩ = some (.int .i64 (F i j))) (hk : k < n) (hab : ab < w.heap.size) (hf : Fr [] w w') :
    ∀ j v, (rowO F k).l[j]? = some v → w'.cell? ⟨ab, ao + k * 7 + j, none⟩ = some v := by
  intro j v hj
  rw [hf.cell ab _ hab, Nat.add_assoc]
  match j with
  | 0 => rw [hc k 0 hk (by omega)]; simpa [rowO] using hj
  | 1 => rw [hc k 1 hk (by omega)]; simpa [rowO] using hj
  | 2 => rw [hc k 2 hk (by omega)]; simpa [rowO] using hj
  | 3 => rw [hc k 3 hk (by omega)]; simpa [rowO] using hj
  | 4 => rw [hc k 4 hk (by omega)]; simpa [rowO] using hj
  | 5 => rw [hc k 5 hk (by omega)]; simpa [rowO] using hj
  | 6 => rw [hc k 6 hk (by omega)]; simpa [rowO] using hj
  | j + 7 => simp at hj
theorem row_seven {w w' : World} {ab ao n k : Nat} {F : Nat → Nat → Int} (hc : ∀ i j, i < n → j < 7 → w.cell? ⟨ab, ao + (i * 7 + j), none⟩ = some (.int .i64 (F i j))) (hk : k < n) (hab : ab < w.heap.size) (hf : Fr [] w w') :
    w'.cell? ⟨ab, ao + k * 7, none⟩ = some (.int .i64 (F k 0)) ∧ w'.cell? ⟨ab, ao + k * 7 + 1, none⟩ = some (.int .i64 (F k 1)) ∧ w'.cell? ⟨ab, ao + k * 7 + 2, none⟩ = some (.int .i64 (F k 2)) ∧ w'.cell? ⟨ab, ao + k * 7 + 3, none⟩ = some (.int .i64 (F k 3)) ∧
    w'.cell? ⟨ab, ao + k * 7 + 4, none⟩ = some (.int .i64 (F k 4)) ∧ w'.cell? ⟨ab, ao + k * 7 + 5, none⟩ = some (.int .i64 (F k 5)) ∧ w'.cell? ⟨ab, ao + k * 7 + 6, none⟩ = some (.int .i64 (F k 6)) := by
  refine ⟨?_, ?_, ?_, ?_, ?_, ?_, ?_⟩
  · rw [hf.cell ab _ hab]; simpa using hc k 0 hk (by omega)
  · rw [hf.cell ab _ hab, Nat.add_assoc]; exact hc k 1 hk (by omega)
  · rw [hf.cell ab _ hab, Nat.add_assoc]; exact hc k 2 hk (by omega)
  · rw [hf.cell ab _ hab, Nat.add_assoc]; exact hc k 3 hk (by omega)
  · rw [hf.cell ab _ hab, Nat.add_assoc]; exact hc k 4 hk (by omega)
  · rw [hf.cell ab _ hab, Nat.add_assoc]; exact hc k 5 hk (by omega)
  · rw [hf.cell ab _ hab, Nat.add_assoc]; exact hc k 6 hk (by omega)
end Go.Proofs.Ytkimldeagndgjaa

/- Regions that draw their order, whose operations read and whose callees at most make new blocks, with guards, in frames of many slots: the walk's state behind a name, so that nothing unfolds it. No program stands in this text. -/
namespace Go.Proofs.Ytkimldeagndgjaa
set_option linter.unusedVariables false
set_option linter.unusedSimpArgs false
open Go.RowKit

section
variable {P : Program} {ops : Array Oper} {C : World → Prop} {Q : Act → Prop}
/-- The state of such a walk. -/
structure QW (P : Program) (ops : Array Oper) (C : World → Prop) (Q : Act → Prop) (l : List Oper) (a : Act) : Prop where
  out : wpQuiet P ops C Q l a
theorem qw_do {o : Oper} {rest : List Oper} {a : Act} {v : Value} (hw : Region.wanted o (yielded ops a.tmps) = true) (hq : ∀ w, C w → o.quietAt P a C w v) (h : QW P ops C Q rest (a.put o.dst v)) : QW P ops C Q (o :: rest) a :=
  ⟨wpQuiet_step fun K hK => soft_do hw hq (hK _ h.out)⟩
theorem qw_skip {o : Oper} {rest : List Oper} {a : Act} (hw : Region.wanted o (yielded ops a.tmps) = false) (h : QW P ops C Q rest (a.put o.dst undef)) : QW P ops C Q (o :: rest) a :=
  ⟨wpQuiet_step fun K hK => soft_skip hw (hK _ h.out)⟩
theorem qw_nil {a : Act} (h : Q a) : QW P ops C Q [] a := ⟨wpQuiet_nil h⟩
end
theorem qw_region {P : Program} {id : Nat} {Q : Exit → Act → World → Prop} {a : Act} {w : World} {l : List Oper} (hm : P.follows .mixedOrders = true) (hB : Region.lexB .any l.toArray = true)
    (h : QW P l.toArray (Fr [] w) (fun a' => ∀ w', Fr [] w w' → Q .normal a' w') l a) : (Code.region id l.toArray true).wp P Q a w := wp_region_soft hm hB h.out
theorem qw_round {P : Program} {Q : Exit → Act → World → Prop} {l n id : Nat} {a : Act} {w : World} {ol : List Oper} (hd : noDefer ol.toArray = true) (hL : ¬ LetsOut Q) (hm : P.follows .mixedOrders = true) (hB : Region.lexB .any ol.toArray = true)
    (h : QW P ol.toArray (Fr [] w) (fun a' => ∀ w', Fr [] w w' → Q .normal a' w') ol a) : (Code.region id ol.toArray true).wpIn (Fence.wide.inRound l) n P Q a w := soft_round hd hL hm hB h.out
end Go.Proofs.Ytkimldeagndgjaa
