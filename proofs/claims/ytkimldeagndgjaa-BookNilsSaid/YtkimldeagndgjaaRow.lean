/- What comes in: whole numbers and bools, structs of these by value, slices of these: opened to cells. -/
import Derived.Test.YtkimldeagndgjaaMem
import Derived.ProofKit
import Derived.OpenShut
import Derived.ChangeOld
import Derived.Deep.Slices
import Derived.Deep.Fields
namespace Go.Proofs.Ytkimldeagndgjaa
set_option linter.unusedVariables false
set_option linter.unusedSimpArgs false
open Go.RowKit Go.ChangeShapes Go.WideShapes Go.Deep

def leafGo (P : Program) (f0 : TypeId → Option (List Bool)) : List Field → Nat → Option (List Bool)
  | [], _ => some []
  | f :: l, off => if f.offset = off then (f0 f.type).bind fun ks => if P.cellsOf f.type = ks.length then (leafGo P f0 l (off + ks.length)).map (ks ++ ·) else none else none
/-- The leaves of a type of structs of int64 (true) and bool (false) alone, in the order of its cells. -/
def leaves (P : Program) : Nat → TypeId → Option (List Bool)
  | 0, _ => none
  | n + 1, t => match P.underlying t with
    | some (.int .i64) => some [true]
    | some .bool => some [false]
    | some (.struct fs) => (leafGo P (leaves P n) fs.toList 0).bind fun ks => if P.cellsOf t = ks.length then some ks else none
    | _ => none

/-- Cells of such leaves. -/
inductive Leafs : List Value → List Bool → Prop
  | nil : Leafs [] []
  | int {z : Int} {cs : List Value} {ks : List Bool} (hz : -9223372036854775808 ≤ z ∧ z ≤ 9223372036854775807) (h : Leafs cs ks) : Leafs (.int .i64 z :: cs) (true :: ks)
  | bool {b : Bool} {cs : List Value} {ks : List Bool} (h : Leafs cs ks) : Leafs (.bool b :: cs) (false :: ks)

theorem Leafs.append {a b : List Value} {k l : List Bool} (h : Leafs a k) (h' : Leafs b l) : Leafs (a ++ b) (k ++ l) := by
  induction h with
  | nil => exact h'
  | int hz _ ih => exact .int hz ih
  | bool _ ih => exact .bool ih
theorem Leafs.int_inv {cs : List Value} {ks : List Bool} (h : Leafs cs (true :: ks)) : ∃ (z : Int) (r : List Value), cs = .int .i64 z :: r ∧ (-9223372036854775808 ≤ z ∧ z ≤ 9223372036854775807) ∧ Leafs r ks := by
  cases h with | int hz h => exact ⟨_, _, rfl, hz, h⟩
theorem Leafs.bool_inv {cs : List Value} {ks : List Bool} (h : Leafs cs (false :: ks)) : ∃ (b : Bool) (r : List Value), cs = .bool b :: r ∧ Leafs r ks := by
  cases h with | bool h => exact ⟨_, _, rfl, h⟩
theorem Leafs.nil_inv {cs : List Value} (h : Leafs cs []) : cs = [] := by cases h; rfl
theorem Leafs.ints {cs : List Value} {n : Nat} (h : Leafs cs (List.replicate n true)) : cs.length = n ∧ ∀ j, j < n → ∃ z : Int, cs[j]? = some (.int .i64 z) ∧ (-9223372036854775808 ≤ z ∧ z ≤ 9223372036854775807) := by
  induction n generalizing cs with
  | zero => cases h; exact ⟨rfl, fun _ h => by omega⟩
  | succ n ih =>
    obtain ⟨z, r, rfl, hz, h'⟩ := Leafs.int_inv h
    obtain ⟨h1, h2⟩ := ih h'
    refine ⟨by simp [h1], fun j hj => ?_⟩
    cases j with
    | zero => exact ⟨z, rfl, hz⟩
    | succ j => exact h2 j (by omega)

theorem wf64 {x : Int} (h : (Lit.int .i64 x).wf = true) : -9223372036854775808 ≤ x ∧ x ≤ 9223372036854775807 := by
  simp only [Lit.wf, Bool.and_eq_true, decide_eq_true_eq] at h
  exact h

section
variable {H : Type} {enc : TypeId × Value → H} {P : Program} {w : World} {base : Nat} {spare : Nat → Bool} {held : Bool}

theorem leaves_read : ∀ (n : Nat) (t : TypeId) (ks : List Bool) (fuel : Nat) (cs : List Value) (x : DataW H × List MemPlace), leaves P n t = some ks → DataW.trod enc P w base spare held fuel t cs = some x → Leafs cs ks := by
  intro n
  induction n with
  | zero => intro t ks fuel cs x h; simp [leaves] at h
  | succ n ih =>
    intro t ks fuel cs x h hx
    unfold leaves at h
    split at h
    · rename_i hu
      obtain ⟨z, rfl, _, hz⟩ := DataW.trod_int hu hx
      cases h
      refine .int ?_ .nil
      simp only [Lit.wf, Bool.and_eq_true, decide_eq_true_eq] at hz
      exact hz
    · rename_i hu
      obtain ⟨b, rfl, _⟩ := DataW.trod_bool hu hx
      cases h
      exact .bool .nil
    · rename_i fs hu
      obtain ⟨xs, m, rfl, _, hlen, _, hf⟩ := DataW.trod_struct hu hx
      simp only [Option.bind_eq_some_iff] at h
      obtain ⟨ks', hg, h⟩ := h
      split at h
      · rename_i hC
        cases h
        rw [hC] at hlen
        have key : ∀ (l : List Field) (off : Nat) (ks : List Bool), leafGo P (leaves P n) l off = some ks → (∀ (i : Nat) (f : Field), l[i]? = some f → ∃ (y : DataW H × List MemPlace), DataW.trod enc P w base spare held m f.type ((cs.drop f.offset).take (P.cellsOf f.type)) = some y) → Leafs ((cs.drop off).take ks.length) ks := by
          intro l
          induction l with
          | nil => intro off ks h _; simp [leafGo] at h; subst h; simpa using Leafs.nil
          | cons f l ihl =>
            intro off ks h hall
            simp only [leafGo] at h
            split at h
            · rename_i ho
              simp only [Option.bind_eq_some_iff] at h
              obtain ⟨k1, h1, h⟩ := h
              split at h
              · rename_i hc
                simp only [Option.map_eq_some_iff] at h
                obtain ⟨k2, h2, rfl⟩ := h
                obtain ⟨y, hy⟩ := hall 0 f rfl
                rw [ho, hc] at hy
                have a1 := ih f.type k1 m _ _ h1 hy
                have a2 := ihl _ _ h2 (fun i f' hf' => hall (i + 1) f' hf')
                have e : (cs.drop off).take (k1 ++ k2).length = (cs.drop off).take k1.length ++ (cs.drop (off + k1.length)).take k2.length := by
                  rw [List.length_append, List.take_add, List.drop_drop]
                rw [e]
                exact a1.append a2
              · cases h
            · cases h
        have := key fs.toList 0 _ hg (fun i f hi => by
          have h0 := hf i f (by simpa using hi)
          rcases h1 : xs[i]? with _ | y
          · rename_i hl
            rw [List.getElem?_eq_none_iff] at h1
            have := (List.getElem?_eq_some_iff.1 hi).1
            simp at this
            omega
          · rw [h1] at h0; exact ⟨y, h0⟩)
        rw [List.drop_zero, List.take_of_length_le (by omega)] at this
        exact this
      · cases h
    · cases h

/-- A struct by value, opened. -/
theorem open_leaves {r : Reach} {b0 : Nat} {t : TypeId} {fs : Array Field} {v : Value} {d : DataW H} {p : List MemPlace} {ks : List Bool} (hs : P.underlying t = some (.struct fs)) (hk : leaves P 5 t = some ks)
    (hv : Value.okWide P w r b0 t v) (h : DataW.Trod enc P w base spare held t v d p) : ∃ cs : List Value, v = .agg cs.toArray ∧ Leafs cs ks := by
  obtain ⟨cs, rfl, _⟩ := okWide_struct hs hv
  obtain ⟨fuel, hf⟩ := h
  refine ⟨cs.toList, by simp, leaves_read _ _ _ _ _ _ hk (by simpa [Value.cells] using hf)⟩

/-- A row of n elements of m whole numbers each, as a slice's address A shows it. -/
def IntRow (w : World) (A : Option Addr) (n m : Nat) (F : Nat → Nat → Int) : Prop :=
  (∀ i j, -9223372036854775808 ≤ F i j ∧ F i j ≤ 9223372036854775807) ∧ (0 < n → ∃ b off, A = some ⟨b, off, none⟩ ∧ b < w.heap.size ∧ ∀ i j, i < n → j < m → w.cell? ⟨b, off + (i * m + j), none⟩ = some (.int .i64 (F i j)))

theorem IntRow.below {A : Option Addr} {n m : Nat} {F : Nat → Nat → Int} {w' : World} (h : IntRow w A n m F) (hb : Below w.heap.size w w') : IntRow w' A n m F :=
  ⟨h.1, fun hn => by
    obtain ⟨b, off, e, hl, hc⟩ := h.2 hn
    exact ⟨b, off, e, Nat.lt_of_lt_of_le hl hb.size, fun i j hi hj => (hb.cell (p := ⟨b, off + (i * m + j), none⟩) hl).trans (hc i j hi hj)⟩⟩

/-- A slice of structs of whole numbers, opened. -/
theorem open_rows {t e : TypeId} {m : Nat} {A : Option Addr} {len cap : Nat} {d : DataW H} {p : List MemPlace} (ht : P.underlying t = some (.slice e)) (hk : leaves P 5 e = some (List.replicate m true)) (hm : 0 < m) (hC : P.cellsOf e = m)
    (h : DataW.Trod enc P w base spare held t (.slice A len cap) d p) : ∃ F : Nat → Nat → Int, IntRow w A len m F ∧ len ≤ maxLen := by
  obtain ⟨fuel, hf⟩ := h
  rcases open_slice ht hf with ⟨hcs, _⟩ | ⟨a, l, c, q, n, D, Pl, hcs, hb, hl, hmx, hq, hx, hi⟩
  · simp [Value.cells] at hcs
    obtain ⟨rfl, rfl, rfl⟩ := hcs
    exact ⟨fun _ _ => 0, ⟨fun _ _ => by dsimp only; omega, fun h => by omega⟩, by unfold maxLen; omega⟩
  · simp [Value.cells] at hcs
    obtain ⟨rfl, rfl, rfl⟩ := hcs
    have hlq : len ≤ q := by rw [hq]; split <;> omega
    have hel : ∀ i j, i < len → j < m → ∃ z : Int, w.cell? (a.add (i * m + j)) = some (.int .i64 z) ∧ (-9223372036854775808 ≤ z ∧ z ≤ 9223372036854775807) := by
      intro i j hil hj
      obtain ⟨cs', hc, ht'⟩ := hi i (by omega)
      rw [hC] at hc
      obtain ⟨_, hcl, hat⟩ := World.cells?_some hc
      obtain ⟨hlen, hz⟩ := (leaves_read _ _ _ _ _ _ hk ht').ints
      obtain ⟨z, hz1, hz2⟩ := hz j hj
      refine ⟨z, ?_, hz2⟩
      have h1 := hat j hj
      rw [hz1, Go.Deep.add_add] at h1
      exact h1
    obtain ⟨F, hF1, hF2⟩ : ∃ F : Nat → Nat → Int, (∀ i j, i < len → j < m → w.cell? (a.add (i * m + j)) = some (.int .i64 (F i j))) ∧ (∀ i j, -9223372036854775808 ≤ F i j ∧ F i j ≤ 9223372036854775807) := by
      refine ⟨fun i j => if h : i < len ∧ j < m then Classical.choose (hel i j h.1 h.2) else 0, fun i j hi hj => ?_, fun i j => ?_⟩
      · dsimp only
        rw [dif_pos ⟨hi, hj⟩]
        exact (Classical.choose_spec (hel i j hi hj)).1
      · dsimp only
        split
        · rename_i h; exact (Classical.choose_spec (hel i j h.1 h.2)).2
        · omega
    refine ⟨F, ⟨hF2, fun hn => ?_⟩, by omega⟩
    · obtain ⟨z, hz, _⟩ := hel 0 0 hn hm
      have hspot : a.spot = none := by
        simp only [Nat.zero_mul, Nat.add_zero] at hz
        unfold Addr.add at hz
        rw [if_pos rfl] at hz
        unfold World.cell? at hz
        split at hz
        · rename_i cs _ _ _
          rcases hsp : a.spot with _ | s
          · rfl
          · simp [hsp] at hz
        · cases hz
      have hblk : a.block < w.heap.size := by
        rcases Nat.lt_or_ge a.block w.heap.size with h | h
        · exact h
        · exfalso
          simp only [Nat.zero_mul, Nat.add_zero] at hz
          unfold Addr.add at hz
          rw [if_pos rfl] at hz
          unfold World.cell? at hz
          rw [Array.getElem?_eq_none h] at hz
          cases hz
      refine ⟨a.block, a.off, ?_, hblk, fun i j hil hj => ?_⟩
      · cases a; simp_all
      · have h1 := hF1 i j hil hj
        have e : a.add (i * m + j) = ⟨a.block, a.off + (i * m + j), none⟩ := by
          unfold Addr.add
          split
          · rename_i h0; rw [h0]; cases a; simp_all
          · rfl
        rw [e] at h1
        exact h1
end
end Go.Proofs.Ytkimldeagndgjaa
