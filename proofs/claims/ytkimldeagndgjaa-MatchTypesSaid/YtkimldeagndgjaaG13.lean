/- Words and contracts: RfA RfB RfC RfD. -/
import Derived.Outline
import Derived.Test.YtkimldeagndgjaaG0
import Derived.Test.YtkimldeagndgjaaG5
import Derived.Test.YtkimldeagndgjaaG6
import Derived.Test.YtkimldeagndgjaaG7
import Derived.Test.YtkimldeagndgjaaG9
/- The document's book (damperref13): its form in memory; New, sided, Find, walked. -/
namespace Go.Proofs.Ytkimldeagndgjaa
set_option linter.unusedVariables false
set_option linter.unusedSimpArgs false
open Go.RowKit

theorem info_ordE : (Try.prog.info? 43).map (fun i => (i.zero.isSome, i.size, (i.zero.map (·.cells.size)), decide (i.bytes ≤ 1000000))) = some (true, 7, some 7, true) := by kernel_rfl
theorem encO_ok : Enc Try.prog Ord.l 7 22 43 := by
  refine ⟨fun _ => rfl, fun x u hu => ?_, by omega, Try.underlying22, ?_⟩
  · simp only [Ord.l, List.mem_cons, List.not_mem_nil, or_false] at hu
    rcases hu with rfl | rfl | rfl | rfl | rfl | rfl | rfl <;> rfl
  · have h := info_ordE
    cases hi : Try.prog.info? 43 with
    | none => rw [hi] at h; cases h
    | some i =>
      rw [hi] at h
      simp only [Option.map_some, Option.some.injEq, Prod.mk.injEq] at h
      obtain ⟨h1, h2, h3, h4⟩ := h
      obtain ⟨z, hz⟩ := Option.isSome_iff_exists.1 h1
      rw [hz] at h3
      exact ⟨i, z, rfl, hz, h2, by simpa using h3, of_decide_eq_true h4⟩
abbrev RowO (w : World) (v : Value) (l : List Ord) : Prop := RowS Ord.l 7 43 w v l
theorem RowS.empty {α : Type} (enc : α → List Value) (sz : Nat) (e : TypeId) (w : World) : RowS enc sz e (w.alloc (.cells #[] e)) (.slice (some ⟨w.heap.size, 0, none⟩) 0 0) [] :=
  ⟨by simp, .inr ⟨_, _, #[], rfl, Nat.zero_le _, heap_alloc_new w _, Nat.le_refl _, by decide, by simp, by simp⟩⟩

/-- The document's book: its struct at block r, its orders in a row that it owns. -/
def RefB (w : World) (r : Nat) (T : List Nat) (N K : Nat) (L : List Ord) : Prop := ∃ v, Blk w r 55 #[.int .i64 N, .int .i64 K, v] ∧ RowO w v L ∧ T = r :: v.ownBlock.toList
theorem RefB.fr {w W : World} {r N K : Nat} {T S : List Nat} {L : List Ord} (h : RefB w r T N K L) (hf : Fr S w W) (hS : ∀ x ∈ T, x ∉ S) : RefB W r T N K L := by
  obtain ⟨v, B, R, rfl⟩ := h
  exact ⟨v, Blk.via hf (hS r (by simp)) B, R.fr hf (fun g hg => hS g (by simp [hg])), rfl⟩
theorem RefB.lts {w : World} {r N K : Nat} {T : List Nat} {L : List Ord} (h : RefB w r T N K L) : ∀ x ∈ T, x < w.heap.size := by
  obtain ⟨v, B, R, rfl⟩ := h
  intro x hx
  rcases List.mem_cons.1 hx with rfl | hx
  · exact B.lt
  · exact R.lt x (by simpa using hx)

/-- Where an ID stands; -1: nowhere. -/
def findI (L : List Ord) (id : Int) : Int := if L.findIdx (fun x => decide (x.id = id)) < L.length then (L.findIdx (fun x => decide (x.id = id)) : Nat) else -1
theorem findI_hit {L : List Ord} {id : Int} {i : Nat} {o : Ord} (ho : L[i]? = some o) (hid : o.id = id) (hno : ∀ j x, j < i → L[j]? = some x → x.id ≠ id) : findI L id = i := by
  have hl := (List.getElem?_eq_some_iff.1 ho).1
  have : L.findIdx (fun x => decide (x.id = id)) = i := by
    rw [List.findIdx_eq hl]
    refine ⟨?_, fun j hj => ?_⟩
    · have := (List.getElem?_eq_some_iff.1 ho).2
      simp [this, hid]
    · have := hno j L[j] hj (List.getElem?_eq_getElem (by omega))
      simpa using this
  unfold findI
  rw [this, if_pos hl]
theorem findI_no {L : List Ord} {id : Int} (hno : ∀ x ∈ L, x.id ≠ id) : findI L id = -1 := by
  unfold findI
  rw [if_neg]
  rw [List.findIdx_lt_length]
  rintro ⟨x, hx, h⟩
  exact hno x hx (of_decide_eq_true h)
theorem findI_neg {L : List Ord} {id : Int} : findI L id < 0 ↔ ∀ x ∈ L, x.id ≠ id := by
  constructor
  · intro h x hx e
    unfold findI at h
    rw [if_pos] at h
    · omega
    · exact List.findIdx_lt_length_of_exists (p := fun y : Ord => decide (y.id = id)) ⟨x, hx, by simp [e]⟩
  · intro h; rw [findI_no h]; decide
theorem findI_any {L : List Ord} {id : Int} : (!decide (findI L id < 0)) = L.any (fun x => decide (x.id = id)) := by
  cases h : L.any (fun x => decide (x.id = id))
  · rw [List.any_eq_false] at h
    have : findI L id < 0 := findI_neg.2 fun x hx e => h x hx (decide_eq_true e)
    simp [this]
  · rw [List.any_eq_true] at h
    obtain ⟨x, hx, e⟩ := h
    have : ¬ findI L id < 0 := fun hn => findI_neg.1 hn x hx (of_decide_eq_true e)
    simp only [this, decide_false, Bool.not_false]

theorem sided_any (w : World) (s : Int) : Calls Try.prog 116 #[.int .i64 s] w fun e w' => e = .returned (.bool (isSide s)) ∧ w = w' := by
  unfold isSide
  rcases (show s = 0 ∨ (s == 0) = false by by_cases a : s = 0 <;> simp [a]) with rfl | h0
  · go_enter Try.func116, Try.ntmps116
    go_wp2_with fail
    go_ret
    exact ⟨rfl, rfl⟩
  · rw [h0]
    go_enter Try.func116, Try.ntmps116
    go_wp2_with fail
    go_ret
    exact ⟨by simp, rfl⟩
theorem refNew (w : World) (N K : Nat) (h1 : 1 ≤ N) (h2 : N ≤ 500) (k1 : 1 ≤ K) (k2 : K ≤ 200) :
    Calls Try.prog 33 #[.int .i64 N, .int .i64 K] w fun e w' => e = .returned (.tuple #[.pointer (some ⟨w.heap.size, 0, none⟩), .int .i64 0]) ∧ Fr [] w w' ∧ RefB w' w.heap.size [w.heap.size] N K [] := by
  have t1 : ¬ (N : Int) < 1 := by omega
  have t2 : ¬ (500 : Int) < (N : Int) := by omega
  have t3 : ¬ (K : Int) < 1 := by omega
  have t4 : ¬ (200 : Int) < (K : Int) := by omega
  go_enter Try.func33, Try.ntmps33
  go_wp2_with fail
  go_ret2
  refine ⟨rfl, (Fr.refl _ _).alloc _, .slice none 0 0, Blk.new _ _ _, RowS.nil _ _ _ _, rfl⟩

set_option maxHeartbeats 1000000 in
theorem refFind (w : World) (r N K : Nat) (T : List Nat) (L : List Ord) (h : RefB w r T N K L) (hl : L.length ≤ 1000000) (id : Int) :
    Calls Try.prog 117 #[.pointer (some ⟨r, 0, none⟩), .int .i64 id] w fun e w' => e = .returned (.int .i64 (findI L id)) ∧ Fr [] w w' := by
  obtain ⟨v, B, R, rfl⟩ := h
  obtain ⟨A, c, rfl, hc⟩ := R.form
  have HR := Lib.hid R
  have HB := Lib.hid B
  have c0 := B.cell
  clear R B hc
  go_enter Try.func117, Try.ntmps117
  go_wp2_with fail
  clear c0
  go_loopw [5] (fun s5 wr => ∃ i : Nat, i ≤ L.length ∧ s5 = .int .i64 i ∧ Fr [] w wr ∧ ∀ j x, j < i → L[j]? = some x → x.id ≠ id) (fun s5 _ => L.length - (intOf s5).toNat)
  case atStart => exact ⟨0, by omega, rfl, Fr.refl _ _, fun j x hj => by omega⟩
  case round =>
    obtain ⟨i, hi, rfl, F1, hno⟩ := hrel
    have HNO := Lib.hid hno
    have c1 := (Blk.via F1 (by simp) HB.out).cell
    clear hno
    by_cases hlt : i < L.length
    · have i0 : (0 : Int) ≤ (i : Int) := by omega
      have i1 : (i : Int) < (L.length : Int) := by omega
      obtain ⟨o, ho⟩ : ∃ o, L[i]? = some o := ⟨_, List.getElem?_eq_getElem hlt⟩
      have R1 := HR.out.fr F1 (by simp)
      obtain ⟨g, c', e, _, hg, hcell⟩ := R1.at encO_ok.len (by omega)
      injection e with e1 _ e2
      subst e1; subst e2
      have q0 : wr.cell? ⟨g, i * 7, none⟩ = some (.int .i64 o.id) := by simpa using hcell i o ho 0 _ rfl
      have HO := Lib.hid ho
      clear hcell R1 ho
      by_cases c2 : o.id = id
      · have HH := Lib.hid (findI_hit HO.out c2 HNO.out)
        have c3 : (o.id == id) = true := by simpa using c2
        clear c2
        go_wp2_with fail
        go_ret
        exact ⟨ret_int HH.out.symm, F1⟩
      · have c3 : (o.id == id) = false := by simpa using c2
        have HC2 := Lib.hid c2
        clear c2
        go_wp2_with fail
        go_roundw
        case rel => exact ⟨i + 1, by omega, by simp, F1, fun j x hj hx => by
          rcases Nat.lt_or_ge j i with h | h
          · exact HNO.out j x h hx
          · obtain rfl : j = i := by omega
            rw [HO.out] at hx; cases hx; exact HC2.out⟩
        case measure => simp [intOf]; omega
    · obtain rfl : i = L.length := by omega
      have HH := Lib.hid (findI_no (L := L) (id := id) fun x hx => by
        obtain ⟨j, hj, rfl⟩ := List.getElem_of_mem hx
        exact HNO.out j _ hj (List.getElem?_eq_getElem hj))
      go_wp2_with fail
      go_ret
      exact ⟨ret_int HH.out.symm, F1⟩
end Go.Proofs.Ytkimldeagndgjaa

/- The document's book (damperref13): Fits, Room, walked. -/
namespace Go.Proofs.Ytkimldeagndgjaa
set_option linter.unusedVariables false
set_option linter.unusedSimpArgs false
open Go.RowKit
attribute [local go_sem] Oper.semAt_some

abbrev enc1 (p : Int) : List Value := [.int .i64 p]
theorem info_64 : (Try.prog.info? 2).map (fun i => (i.zero.isSome, i.size, (i.zero.map (·.cells.size)), decide (i.bytes ≤ 1000000))) = some (true, 1, some 1, true) := by kernel_rfl
theorem enc1_ok : Enc Try.prog enc1 1 50 2 := by
  refine ⟨fun _ => rfl, fun x u hu => ?_, by omega, Try.underlying50, ?_⟩
  · simp only [enc1, List.mem_cons, List.not_mem_nil, or_false] at hu
    rcases hu with rfl; rfl
  · have h := info_64
    cases hi : Try.prog.info? 2 with
    | none => rw [hi] at h; cases h
    | some i =>
      rw [hi] at h
      simp only [Option.map_some, Option.some.injEq, Prod.mk.injEq] at h
      obtain ⟨h1, h2, h3, h4⟩ := h
      obtain ⟨z, hz⟩ := Option.isSome_iff_exists.1 h1
      rw [hz] at h3
      exact ⟨i, z, rfl, hz, h2, by simpa using h3, of_decide_eq_true h4⟩
abbrev RowP (w : World) (v : Value) (l : List Int) : Prop := RowS enc1 1 2 w v l
theorem prsL_snoc {s : Int} {x : Ord} : ∀ {A : List Ord} {acc : List Int}, prsL s (A ++ [x]) acc = if x.sd = s ∧ x.pr ∉ prsL s A acc then prsL s A acc ++ [x.pr] else prsL s A acc
  | [], acc => by simp only [List.nil_append, prsL]; split <;> rename_i h <;> simp [h]
  | a :: r, acc => by rw [List.cons_append, prsL, prsL, prsL_snoc]
theorem fits_hit {s p : Int} {L : List Ord} {K : Nat} {o : Ord} (ho : o ∈ L) (h1 : o.sd = s) (h2 : o.pr = p) : fitsB s p L K = true := by
  unfold fitsB
  rw [Bool.or_eq_true]
  exact .inl (List.any_eq_true.2 ⟨o, ho, by simp [h1, h2]⟩)
theorem fits_end {s p : Int} {L : List Ord} {K : Nat} (hno : ∀ x ∈ L, ¬ (x.sd = s ∧ x.pr = p)) : fitsB s p L K = decide ((prsL s L []).length < K) := by
  unfold fitsB
  have : L.any (fun x => decide (x.sd = s ∧ x.pr = p)) = false := List.any_eq_false.2 fun x hx => by simpa using hno x hx
  rw [this, Bool.false_or]

set_option maxHeartbeats 4000000 in
set_option maxRecDepth 5000 in
theorem refFits (w : World) (r N K : Nat) (T : List Nat) (L : List Ord) (h : RefB w r T N K L) (hl : L.length ≤ 10000) (s p : Int) :
    Calls Try.prog 158 #[.pointer (some ⟨r, 0, none⟩), .int .i64 s, .int .i64 p] w fun e w' => e = .returned (.bool (fitsB s p L K)) ∧ Fr [] w w' := by
  obtain ⟨v, B, R, rfl⟩ := h
  obtain ⟨A, c, rfl, hc⟩ := R.form
  have HR := Lib.hid R
  have HB := Lib.hid B
  have HL := Lib.hid hl
  clear R B hc
  go_enter Try.func158, Try.ntmps158
  go_wp2_with fail
  go_loopw [7, 8] (fun s7 s8 wr => ∃ i : Nat, i ≤ L.length ∧ s8 = .int .i64 i ∧ Fr [] w wr ∧ RowP wr s7 (prsL s (L.take i) []) ∧ (∀ g, s7.ownBlock = some g → w.heap.size ≤ g) ∧ ∀ x ∈ L.take i, ¬ (x.sd = s ∧ x.pr = p)) (fun _ s8 _ => L.length - (intOf s8).toNat)
  case atStart => exact ⟨0, by omega, rfl, Fr.refl _ _, by rw [List.take_zero]; exact RowS.nil _ _ _ _, (fun g hg => by cases hg), by simp⟩
  case round =>
    obtain ⟨i, hi, rfl, F1, RP, hpo, hno⟩ := hrel
    obtain ⟨wo, hwo⟩ : ∃ x, x = wr := ⟨_, rfl⟩
    subst hwo
    obtain ⟨AP, cP, rfl, _⟩ := RP.form
    have HNO := Lib.hid hno
    have HPO := Lib.hid hpo
    have HRP := Lib.hid RP
    have c1 := (Blk.via F1 (by simp) HB.out).cell
    have hpl := prsL_len (s := s) (L := L.take i) (acc := [])
    have HPL : Hid ((prsL s (L.take i) []).length ≤ i) := Lib.hid (by rw [List.length_take] at hpl; simp at hpl; omega)
    have hpli := HPL.out
    clear hno hpo RP hpl
    by_cases hlt : i < L.length
    · have i0 : (0 : Int) ≤ (i : Int) := by omega
      have i1 : (i : Int) < (L.length : Int) := by omega
      obtain ⟨o, ho⟩ : ∃ o, L[i]? = some o := ⟨_, List.getElem?_eq_getElem hlt⟩
      have R1 := HR.out.fr F1 (by simp)
      obtain ⟨g, c', e, _, hg, hcell⟩ := R1.at encO_ok.len (by omega)
      injection e with e1 _ e2
      subst e1; subst e2
      have hg0 : g < w.heap.size := HR.out.lt g rfl
      have HG := Lib.hid (fun W (hf : Fr [] w W) => And.intro (((hf.cell g (i * 7 + 2) hg0).trans (F1.cell g (i * 7 + 2) hg0).symm).trans (hcell i o ho 2 _ rfl)) (((hf.cell g (i * 7 + 3) hg0).trans (F1.cell g (i * 7 + 3) hg0).symm).trans (hcell i o ho 3 _ rfl)))
      have htk : L.take (i + 1) = L.take i ++ [o] := by rw [List.take_add_one, ho]; rfl
      have hpn : prsL s (L.take (i + 1)) [] = if o.sd = s ∧ o.pr ∉ prsL s (L.take i) [] then prsL s (L.take i) [] ++ [o.pr] else prsL s (L.take i) [] := by rw [htk]; exact prsL_snoc
      have HTK := Lib.hid htk
      have HPN := Lib.hid hpn
      have HOM := Lib.hid (List.mem_of_getElem? ho)
      clear hcell R1 ho htk hpn
      generalize hP : prsL s (L.take i) [] = P at *
      clear hP
      go_wp2_with fail
      go_loopw [9, 10] (fun s9 s10 wr2 => ∃ k : Nat, k ≤ P.length ∧ s10 = .int .i64 k ∧ s9 = .bool (decide (o.pr ∈ P.take k)) ∧ Fr [] wo wr2) (fun _ s10 _ => P.length - (intOf s10).toNat)
      case atStart => exact ⟨0, by omega, rfl, by simp, Fr.refl _ _⟩
      case round =>
        obtain ⟨k, hk, rfl, rfl, F2⟩ := hrel
        obtain ⟨q2, q3⟩ := HG.out _ (F1.trans F2)
        have c2 := (Blk.via F2 (by simp) (Blk.via F1 (by simp) HB.out)).cell
        by_cases hkl : k < P.length
        · have k0 : (0 : Int) ≤ (k : Int) := by omega
          have k1 : (k : Int) < (P.length : Int) := by omega
          obtain ⟨z, hz⟩ : ∃ z, P[k]? = some z := ⟨_, List.getElem?_eq_getElem hkl⟩
          obtain ⟨gp, cp', e, _, hgp, hpc⟩ := (HRP.out.fr F2 (by simp)).at enc1_ok.len (by omega)
          injection e with e1 _ e2
          subst e1; subst e2
          have HZc : Hid (∀ W, Fr [] wr W → W.cell? ⟨gp, k, none⟩ = some (.int .i64 z)) := Lib.hid fun W hf => by
            rw [hf.cell gp k hgp]; simpa using hpc k z hz 0 _ rfl
          have htk : P.take (k + 1) = P.take k ++ [z] := by rw [List.take_add_one, hz]; rfl
          have HT2 := Lib.hid htk
          clear hpc hz htk c1
          by_cases hm : o.pr ∈ P.take k
          · rw [decide_eq_true hm]
            have HM := Lib.hid hm
            clear hm
            go_wp2_with fail
            refine qw_region (by kernel_rfl) (by kernel_rfl) ?_; (with_reducible apply qw_do; (kernel_rfl); (focus (intro W hC; (skip); go_simp; (first | (fail) | done | rfl | exact ⟨rfl, rfl⟩))); (try simp only [Act.put, List.getElem_toArray, List.getElem_cons_succ, List.getElem_cons_zero, List.setIfInBounds_toArray, List.set_cons_zero, List.set_cons_succ])); (with_reducible apply qw_do; (kernel_rfl); (focus (intro W hC; (skip); go_simp; (first | (fail) | done | rfl | exact ⟨rfl, rfl⟩))); (try simp only [Act.put, List.getElem_toArray, List.getElem_cons_succ, List.getElem_cons_zero, List.setIfInBounds_toArray, List.set_cons_zero, List.set_cons_succ])); (with_reducible apply qw_skip; (kernel_rfl); (try simp only [Act.put, List.getElem_toArray, List.getElem_cons_succ, List.getElem_cons_zero, List.setIfInBounds_toArray, List.set_cons_zero, List.set_cons_succ])); (with_reducible apply qw_skip; (kernel_rfl); (try simp only [Act.put, List.getElem_toArray, List.getElem_cons_succ, List.getElem_cons_zero, List.setIfInBounds_toArray, List.set_cons_zero, List.set_cons_succ])); (with_reducible apply qw_skip; (kernel_rfl); (try simp only [Act.put, List.getElem_toArray, List.getElem_cons_succ, List.getElem_cons_zero, List.setIfInBounds_toArray, List.set_cons_zero, List.set_cons_succ])); (with_reducible apply qw_skip; (kernel_rfl); (try simp only [Act.put, List.getElem_toArray, List.getElem_cons_succ, List.getElem_cons_zero, List.setIfInBounds_toArray, List.set_cons_zero, List.set_cons_succ])); (with_reducible apply qw_skip; (kernel_rfl); (try simp only [Act.put, List.getElem_toArray, List.getElem_cons_succ, List.getElem_cons_zero, List.setIfInBounds_toArray, List.set_cons_zero, List.set_cons_succ])); (with_reducible apply qw_skip; (kernel_rfl); (try simp only [Act.put, List.getElem_toArray, List.getElem_cons_succ, List.getElem_cons_zero, List.setIfInBounds_toArray, List.set_cons_zero, List.set_cons_succ])); (with_reducible apply qw_skip; (kernel_rfl); (try simp only [Act.put, List.getElem_toArray, List.getElem_cons_succ, List.getElem_cons_zero, List.setIfInBounds_toArray, List.set_cons_zero, List.set_cons_succ])); (with_reducible apply qw_skip; (kernel_rfl); (try simp only [Act.put, List.getElem_toArray, List.getElem_cons_succ, List.getElem_cons_zero, List.setIfInBounds_toArray, List.set_cons_zero, List.set_cons_succ])); (with_reducible apply qw_skip; (kernel_rfl); (try simp only [Act.put, List.getElem_toArray, List.getElem_cons_succ, List.getElem_cons_zero, List.setIfInBounds_toArray, List.set_cons_zero, List.set_cons_succ])); (with_reducible apply qw_skip; (kernel_rfl); (try simp only [Act.put, List.getElem_toArray, List.getElem_cons_succ, List.getElem_cons_zero, List.setIfInBounds_toArray, List.set_cons_zero, List.set_cons_succ])); (with_reducible apply qw_skip; (kernel_rfl); (try simp only [Act.put, List.getElem_toArray, List.getElem_cons_succ, List.getElem_cons_zero, List.setIfInBounds_toArray, List.set_cons_zero, List.set_cons_succ])); (with_reducible apply qw_skip; (kernel_rfl); (try simp only [Act.put, List.getElem_toArray, List.getElem_cons_succ, List.getElem_cons_zero, List.setIfInBounds_toArray, List.set_cons_zero, List.set_cons_succ])); (with_reducible apply qw_skip; (kernel_rfl); (try simp only [Act.put, List.getElem_toArray, List.getElem_cons_succ, List.getElem_cons_zero, List.setIfInBounds_toArray, List.set_cons_zero, List.set_cons_succ])); (with_reducible apply qw_do; (kernel_rfl); (focus (intro W hC; (skip); go_simp; (first | (fail) | done | rfl | exact ⟨rfl, rfl⟩))); (try simp only [Act.put, List.getElem_toArray, List.getElem_cons_succ, List.getElem_cons_zero, List.setIfInBounds_toArray, List.set_cons_zero, List.set_cons_succ])); (with_reducible apply qw_do; (kernel_rfl); (focus (intro W hC; (skip); go_simp; (first | (fail) | done | rfl | exact ⟨rfl, rfl⟩))); (try simp only [Act.put, List.getElem_toArray, List.getElem_cons_succ, List.getElem_cons_zero, List.setIfInBounds_toArray, List.set_cons_zero, List.set_cons_succ])); with_reducible refine qw_nil ?_
            intro w3 F3
            go_wp2_with fail
            go_roundw
            case rel => exact ⟨k + 1, by omega, by simp, by rw [HT2.out, decide_eq_true (List.mem_append.2 (.inl HM.out))], F2.trans F3⟩
            case measure => simp [intOf]; omega
          · rw [decide_eq_false hm]
            have HM := Lib.hid hm
            clear hm
            go_wp2_with fail
            refine qw_region (by kernel_rfl) (by kernel_rfl) ?_; (with_reducible apply qw_do; (kernel_rfl); (focus (intro W hC; (obtain ⟨x2, x3⟩ := HG.out W (F1.trans (F2.trans hC)); have x0 := HZc.out W hC; have cW := (Blk.via hC (by simp) (Blk.via F2 (by simp) (Blk.via F1 (by simp) HB.out))).cell); go_simp; (first | (fail) | done | rfl | exact ⟨rfl, rfl⟩))); (try simp only [Act.put, List.getElem_toArray, List.getElem_cons_succ, List.getElem_cons_zero, List.setIfInBounds_toArray, List.set_cons_zero, List.set_cons_succ])); (with_reducible apply qw_do; (kernel_rfl); (focus (intro W hC; (obtain ⟨x2, x3⟩ := HG.out W (F1.trans (F2.trans hC)); have x0 := HZc.out W hC; have cW := (Blk.via hC (by simp) (Blk.via F2 (by simp) (Blk.via F1 (by simp) HB.out))).cell); go_simp; (first | (fail) | done | rfl | exact ⟨rfl, rfl⟩))); (try simp only [Act.put, List.getElem_toArray, List.getElem_cons_succ, List.getElem_cons_zero, List.setIfInBounds_toArray, List.set_cons_zero, List.set_cons_succ])); (with_reducible apply qw_do; (kernel_rfl); (focus (intro W hC; (obtain ⟨x2, x3⟩ := HG.out W (F1.trans (F2.trans hC)); have x0 := HZc.out W hC; have cW := (Blk.via hC (by simp) (Blk.via F2 (by simp) (Blk.via F1 (by simp) HB.out))).cell); go_simp; (first | (fail) | done | rfl | exact ⟨rfl, rfl⟩))); (try simp only [Act.put, List.getElem_toArray, List.getElem_cons_succ, List.getElem_cons_zero, List.setIfInBounds_toArray, List.set_cons_zero, List.set_cons_succ])); (with_reducible apply qw_do; (kernel_rfl); (focus (intro W hC; (obtain ⟨x2, x3⟩ := HG.out W (F1.trans (F2.trans hC)); have x0 := HZc.out W hC; have cW := (Blk.via hC (by simp) (Blk.via F2 (by simp) (Blk.via F1 (by simp) HB.out))).cell); go_simp; (first | (fail) | done | rfl | exact ⟨rfl, rfl⟩))); (try simp only [Act.put, List.getElem_toArray, List.getElem_cons_succ, List.getElem_cons_zero, List.setIfInBounds_toArray, List.set_cons_zero, List.set_cons_succ])); (with_reducible apply qw_do; (kernel_rfl); (focus (intro W hC; (obtain ⟨x2, x3⟩ := HG.out W (F1.trans (F2.trans hC)); have x0 := HZc.out W hC; have cW := (Blk.via hC (by simp) (Blk.via F2 (by simp) (Blk.via F1 (by simp) HB.out))).cell); go_simp; (first | (fail) | done | rfl | exact ⟨rfl, rfl⟩))); (try simp only [Act.put, List.getElem_toArray, List.getElem_cons_succ, List.getElem_cons_zero, List.setIfInBounds_toArray, List.set_cons_zero, List.set_cons_succ])); (with_reducible apply qw_do; (kernel_rfl); (focus (intro W hC; (obtain ⟨x2, x3⟩ := HG.out W (F1.trans (F2.trans hC)); have x0 := HZc.out W hC; have cW := (Blk.via hC (by simp) (Blk.via F2 (by simp) (Blk.via F1 (by simp) HB.out))).cell); go_simp; (first | (fail) | done | rfl | exact ⟨rfl, rfl⟩))); (try simp only [Act.put, List.getElem_toArray, List.getElem_cons_succ, List.getElem_cons_zero, List.setIfInBounds_toArray, List.set_cons_zero, List.set_cons_succ])); (with_reducible apply qw_do; (kernel_rfl); (focus (intro W hC; (obtain ⟨x2, x3⟩ := HG.out W (F1.trans (F2.trans hC)); have x0 := HZc.out W hC; have cW := (Blk.via hC (by simp) (Blk.via F2 (by simp) (Blk.via F1 (by simp) HB.out))).cell); go_simp; (first | (fail) | done | rfl | exact ⟨rfl, rfl⟩))); (try simp only [Act.put, List.getElem_toArray, List.getElem_cons_succ, List.getElem_cons_zero, List.setIfInBounds_toArray, List.set_cons_zero, List.set_cons_succ])); (with_reducible apply qw_do; (kernel_rfl); (focus (intro W hC; (obtain ⟨x2, x3⟩ := HG.out W (F1.trans (F2.trans hC)); have x0 := HZc.out W hC; have cW := (Blk.via hC (by simp) (Blk.via F2 (by simp) (Blk.via F1 (by simp) HB.out))).cell); go_simp; (first | (fail) | done | rfl | exact ⟨rfl, rfl⟩))); (try simp only [Act.put, List.getElem_toArray, List.getElem_cons_succ, List.getElem_cons_zero, List.setIfInBounds_toArray, List.set_cons_zero, List.set_cons_succ])); (with_reducible apply qw_do; (kernel_rfl); (focus (intro W hC; (obtain ⟨x2, x3⟩ := HG.out W (F1.trans (F2.trans hC)); have x0 := HZc.out W hC; have cW := (Blk.via hC (by simp) (Blk.via F2 (by simp) (Blk.via F1 (by simp) HB.out))).cell); go_simp; (first | (fail) | done | rfl | exact ⟨rfl, rfl⟩))); (try simp only [Act.put, List.getElem_toArray, List.getElem_cons_succ, List.getElem_cons_zero, List.setIfInBounds_toArray, List.set_cons_zero, List.set_cons_succ])); (with_reducible apply qw_do; (kernel_rfl); (focus (intro W hC; (obtain ⟨x2, x3⟩ := HG.out W (F1.trans (F2.trans hC)); have x0 := HZc.out W hC; have cW := (Blk.via hC (by simp) (Blk.via F2 (by simp) (Blk.via F1 (by simp) HB.out))).cell); go_simp; (first | (fail) | done | rfl | exact ⟨rfl, rfl⟩))); (try simp only [Act.put, List.getElem_toArray, List.getElem_cons_succ, List.getElem_cons_zero, List.setIfInBounds_toArray, List.set_cons_zero, List.set_cons_succ])); (with_reducible apply qw_do; (kernel_rfl); (focus (intro W hC; (obtain ⟨x2, x3⟩ := HG.out W (F1.trans (F2.trans hC)); have x0 := HZc.out W hC; have cW := (Blk.via hC (by simp) (Blk.via F2 (by simp) (Blk.via F1 (by simp) HB.out))).cell); go_simp; (first | (fail) | done | rfl | exact ⟨rfl, rfl⟩))); (try simp only [Act.put, List.getElem_toArray, List.getElem_cons_succ, List.getElem_cons_zero, List.setIfInBounds_toArray, List.set_cons_zero, List.set_cons_succ])); (with_reducible apply qw_do; (kernel_rfl); (focus (intro W hC; (obtain ⟨x2, x3⟩ := HG.out W (F1.trans (F2.trans hC)); have x0 := HZc.out W hC; have cW := (Blk.via hC (by simp) (Blk.via F2 (by simp) (Blk.via F1 (by simp) HB.out))).cell); go_simp; (first | (fail) | done | rfl | exact ⟨rfl, rfl⟩))); (try simp only [Act.put, List.getElem_toArray, List.getElem_cons_succ, List.getElem_cons_zero, List.setIfInBounds_toArray, List.set_cons_zero, List.set_cons_succ])); (with_reducible apply qw_do; (kernel_rfl); (focus (intro W hC; (obtain ⟨x2, x3⟩ := HG.out W (F1.trans (F2.trans hC)); have x0 := HZc.out W hC; have cW := (Blk.via hC (by simp) (Blk.via F2 (by simp) (Blk.via F1 (by simp) HB.out))).cell); go_simp; (first | (fail) | done | rfl | exact ⟨rfl, rfl⟩))); (try simp only [Act.put, List.getElem_toArray, List.getElem_cons_succ, List.getElem_cons_zero, List.setIfInBounds_toArray, List.set_cons_zero, List.set_cons_succ])); (with_reducible apply qw_do; (kernel_rfl); (focus (intro W hC; (obtain ⟨x2, x3⟩ := HG.out W (F1.trans (F2.trans hC)); have x0 := HZc.out W hC; have cW := (Blk.via hC (by simp) (Blk.via F2 (by simp) (Blk.via F1 (by simp) HB.out))).cell); go_simp; (first | (fail) | done | rfl | exact ⟨rfl, rfl⟩))); (try simp only [Act.put, List.getElem_toArray, List.getElem_cons_succ, List.getElem_cons_zero, List.setIfInBounds_toArray, List.set_cons_zero, List.set_cons_succ])); (with_reducible apply qw_do; (kernel_rfl); (focus (intro W hC; (obtain ⟨x2, x3⟩ := HG.out W (F1.trans (F2.trans hC)); have x0 := HZc.out W hC; have cW := (Blk.via hC (by simp) (Blk.via F2 (by simp) (Blk.via F1 (by simp) HB.out))).cell); go_simp; (first | (fail) | done | rfl | exact ⟨rfl, rfl⟩))); (try simp only [Act.put, List.getElem_toArray, List.getElem_cons_succ, List.getElem_cons_zero, List.setIfInBounds_toArray, List.set_cons_zero, List.set_cons_succ])); (with_reducible apply qw_do; (kernel_rfl); (focus (intro W hC; (obtain ⟨x2, x3⟩ := HG.out W (F1.trans (F2.trans hC)); have x0 := HZc.out W hC; have cW := (Blk.via hC (by simp) (Blk.via F2 (by simp) (Blk.via F1 (by simp) HB.out))).cell); go_simp; (first | (fail) | done | rfl | exact ⟨rfl, rfl⟩))); (try simp only [Act.put, List.getElem_toArray, List.getElem_cons_succ, List.getElem_cons_zero, List.setIfInBounds_toArray, List.set_cons_zero, List.set_cons_succ])); (with_reducible apply qw_do; (kernel_rfl); (focus (intro W hC; (obtain ⟨x2, x3⟩ := HG.out W (F1.trans (F2.trans hC)); have x0 := HZc.out W hC; have cW := (Blk.via hC (by simp) (Blk.via F2 (by simp) (Blk.via F1 (by simp) HB.out))).cell); go_simp; (first | (fail) | done | rfl | exact ⟨rfl, rfl⟩))); (try simp only [Act.put, List.getElem_toArray, List.getElem_cons_succ, List.getElem_cons_zero, List.setIfInBounds_toArray, List.set_cons_zero, List.set_cons_succ])); with_reducible refine qw_nil ?_
            intro w3 F3
            go_wp2_with fail
            go_roundw
            case rel => exact ⟨k + 1, by omega, by simp, by
              rw [HT2.out]
              congr 1
              by_cases e : z = o.pr
              · subst e; simp
              · have := HM.out
                have e' : ¬ o.pr = z := fun h => e h.symm
                simp [e, e', this], F2.trans F3⟩
            case measure => simp [intOf]; omega
        · obtain rfl : k = P.length := by omega
          have htk : P.take P.length = P := List.take_length
          rw [htk]
          clear htk c1
          have F12 := F1.trans F2
          have HNEXT : Hid (¬ (o.sd = s ∧ o.pr = p) → ∀ x ∈ L.take (i + 1), ¬ (x.sd = s ∧ x.pr = p)) := Lib.hid fun h x hx => by
            rw [HTK.out] at hx
            rcases List.mem_append.1 hx with hx | hx
            · exact HNO.out x hx
            · rw [List.mem_singleton.1 hx]; exact h
          by_cases hs : o.sd = s
          · have hs' : (o.sd == s) = true := by simpa using hs
            have HS := Lib.hid hs
            clear hs
            by_cases him : o.pr ∈ P
            · rw [decide_eq_true him]
              have HI := Lib.hid him
              clear him
              by_cases hp : o.pr = p
              · have hp' : (o.pr == p) = true := by simpa using hp
                have HH := Lib.hid (fits_hit (K := K) HOM.out HS.out hp)
                clear hp
                go_wp2_with fail
                go_ret
                exact ⟨by rw [HH.out]; rfl, F12⟩
              · have hp' : (o.pr == p) = false := by simpa using hp
                have HP := Lib.hid hp
                clear hp
                go_wp2_with fail
                go_roundw
                case rel => exact ⟨i + 1, by omega, by simp, F12, by rw [HPN.out, if_neg (fun h => h.2 HI.out)]; exact HRP.out.fr F2 (by simp), HPO.out, HNEXT.out fun h => HP.out h.2⟩
                case measure => simp [intOf]; omega
            · rw [decide_eq_false him]
              have HI := Lib.hid him
              clear him
              by_cases hp : o.pr = p
              · have hp' : (o.pr == p) = true := by simpa using hp
                have HH := Lib.hid (fits_hit (K := K) HOM.out HS.out hp)
                clear hp
                go_wp2_with (refine wpList_appG _ rfl (.tmp 56) (.tmp 65) 50 2 rfl enc1_ok (.slice AP P.length cP) P rfl ?ow (some ⟨wr.heap.size, 0, none⟩) 1 1 [o.pr] rfl rfl ?sr ?bd ?_
                             case ow => exact (HRP.out.fr F2 (by simp)).fr (S := []) ((Fr.refl _ _).alloc _) (by simp)
                             case sr => exact src_blk (Blk.new _ _ _)
                             case bd => omega
                             intro v' w3 R3 F3 hv'
                             have F03 : Fr [] w w3 := fr_fresh F3 (fun x hx => HPO.out x (by simpa using hx)) (F12.alloc _)
                             have c3 := (Blk.via F03 (by simp) HB.out).cell
                             obtain ⟨y2, y3⟩ := HG.out w3 F03
                             have HR3 := Lib.hid R3
                             have HV3 : Hid (∀ k, v'.ownBlock = some k → w.heap.size ≤ k) := Lib.hid (fun k hk => by
                               rcases hv' with h | h
                               · exact HPO.out k (by rw [← h, hk])
                               · rw [h] at hk; cases hk; rw [World.size_alloc]; have := F12.size; omega)
                             clear R3 F3 hv' c2 q2 q3)
                go_ret
                exact ⟨by rw [HH.out]; rfl, F03⟩
              · have hp' : (o.pr == p) = false := by simpa using hp
                have HP := Lib.hid hp
                clear hp
                go_wp2_with (refine wpList_appG _ rfl (.tmp 56) (.tmp 65) 50 2 rfl enc1_ok (.slice AP P.length cP) P rfl ?ow (some ⟨wr.heap.size, 0, none⟩) 1 1 [o.pr] rfl rfl ?sr ?bd ?_
                             case ow => exact (HRP.out.fr F2 (by simp)).fr (S := []) ((Fr.refl _ _).alloc _) (by simp)
                             case sr => exact src_blk (Blk.new _ _ _)
                             case bd => omega
                             intro v' w3 R3 F3 hv'
                             have F03 : Fr [] w w3 := fr_fresh F3 (fun x hx => HPO.out x (by simpa using hx)) (F12.alloc _)
                             have c3 := (Blk.via F03 (by simp) HB.out).cell
                             obtain ⟨y2, y3⟩ := HG.out w3 F03
                             have HR3 := Lib.hid R3
                             have HV3 : Hid (∀ k, v'.ownBlock = some k → w.heap.size ≤ k) := Lib.hid (fun k hk => by
                               rcases hv' with h | h
                               · exact HPO.out k (by rw [← h, hk])
                               · rw [h] at hk; cases hk; rw [World.size_alloc]; have := F12.size; omega)
                             clear R3 F3 hv' c2 q2 q3)
                go_roundw
                case rel => exact ⟨i + 1, by omega, by simp, F03, by rw [HPN.out, if_pos ⟨HS.out, HI.out⟩]; exact HR3.out, HV3.out, HNEXT.out fun h => HP.out h.2⟩
                case measure => simp [intOf]; omega
          · have hs' : (o.sd == s) = false := by simpa using hs
            have HS := Lib.hid hs
            clear hs
            go_wp2_with fail
            go_roundw
            case rel => exact ⟨i + 1, by omega, by simp, F12, by rw [HPN.out, if_neg (fun h => HS.out h.1)]; exact HRP.out.fr F2 (by simp), HPO.out, HNEXT.out fun h => HS.out h.1⟩
            case measure => simp [intOf]; omega
    · obtain rfl : i = L.length := by omega
      have htk : L.take L.length = L := List.take_length
      rw [htk] at HRP HNO HPL
      have HE := Lib.hid (fits_end (K := K) HNO.out)
      clear htk
      go_wp2_with fail
      go_ret
      exact ⟨by rw [HE.out]; rfl, F1⟩

theorem refRoom (w : World) (r N K : Nat) (T : List Nat) (L : List Ord) (h : RefB w r T N K L) (hl : L.length ≤ 10000) (s p : Int) :
    Calls Try.prog 118 #[.pointer (some ⟨r, 0, none⟩), .int .i64 s, .int .i64 p] w fun e w' => e = .returned (.bool (fitsB s p L K && decide (L.length < N))) ∧ Fr [] w w' := by
  have HF := Lib.hid (fun W (hf : Fr [] w W) => refFits W r N K T L (h.fr hf (by simp)) hl s p)
  obtain ⟨v, B, R, rfl⟩ := h
  obtain ⟨A, c, rfl, hc⟩ := R.form
  have HB := Lib.hid B
  clear R B hc
  by_cases hn : L.length < N
  · have n1 : (L.length : Int) < (N : Int) := by omega
    rw [decide_eq_true hn, Bool.and_true]
    go_enter Try.func118, Try.ntmps118
    go_wp2_with fail
    refine qw_region (by kernel_rfl) (by kernel_rfl) ?_; (with_reducible apply qw_do; (kernel_rfl); (focus (intro W hC; (have cW := (Blk.via hC (by simp) HB.out).cell); go_simp; (first | ((go_at_call 158; refine (HF.out _ hC).mono ?_; rintro e w2 ⟨rfl, hf⟩; exact ⟨rfl, hC.trans hf⟩)) | done | rfl | exact ⟨rfl, rfl⟩))); (try simp only [Act.put, List.getElem_toArray, List.getElem_cons_succ, List.getElem_cons_zero, List.setIfInBounds_toArray, List.set_cons_zero, List.set_cons_succ])); (with_reducible apply qw_do; (kernel_rfl); (focus (intro W hC; (have cW := (Blk.via hC (by simp) HB.out).cell); go_simp; (first | ((go_at_call 158; refine (HF.out _ hC).mono ?_; rintro e w2 ⟨rfl, hf⟩; exact ⟨rfl, hC.trans hf⟩)) | done | rfl | exact ⟨rfl, rfl⟩))); (try simp only [Act.put, List.getElem_toArray, List.getElem_cons_succ, List.getElem_cons_zero, List.setIfInBounds_toArray, List.set_cons_zero, List.set_cons_succ])); (with_reducible apply qw_do; (kernel_rfl); (focus (intro W hC; (have cW := (Blk.via hC (by simp) HB.out).cell); go_simp; (first | ((go_at_call 158; refine (HF.out _ hC).mono ?_; rintro e w2 ⟨rfl, hf⟩; exact ⟨rfl, hC.trans hf⟩)) | done | rfl | exact ⟨rfl, rfl⟩))); (try simp only [Act.put, List.getElem_toArray, List.getElem_cons_succ, List.getElem_cons_zero, List.setIfInBounds_toArray, List.set_cons_zero, List.set_cons_succ])); (with_reducible apply qw_do; (kernel_rfl); (focus (intro W hC; (have cW := (Blk.via hC (by simp) HB.out).cell); go_simp; (first | ((go_at_call 158; refine (HF.out _ hC).mono ?_; rintro e w2 ⟨rfl, hf⟩; exact ⟨rfl, hC.trans hf⟩)) | done | rfl | exact ⟨rfl, rfl⟩))); (try simp only [Act.put, List.getElem_toArray, List.getElem_cons_succ, List.getElem_cons_zero, List.setIfInBounds_toArray, List.set_cons_zero, List.set_cons_succ])); (with_reducible apply qw_do; (kernel_rfl); (focus (intro W hC; (have cW := (Blk.via hC (by simp) HB.out).cell); go_simp; (first | ((go_at_call 158; refine (HF.out _ hC).mono ?_; rintro e w2 ⟨rfl, hf⟩; exact ⟨rfl, hC.trans hf⟩)) | done | rfl | exact ⟨rfl, rfl⟩))); (try simp only [Act.put, List.getElem_toArray, List.getElem_cons_succ, List.getElem_cons_zero, List.setIfInBounds_toArray, List.set_cons_zero, List.set_cons_succ])); (with_reducible apply qw_do; (kernel_rfl); (focus (intro W hC; (have cW := (Blk.via hC (by simp) HB.out).cell); go_simp; (first | ((go_at_call 158; refine (HF.out _ hC).mono ?_; rintro e w2 ⟨rfl, hf⟩; exact ⟨rfl, hC.trans hf⟩)) | done | rfl | exact ⟨rfl, rfl⟩))); (try simp only [Act.put, List.getElem_toArray, List.getElem_cons_succ, List.getElem_cons_zero, List.setIfInBounds_toArray, List.set_cons_zero, List.set_cons_succ])); (with_reducible apply qw_do; (kernel_rfl); (focus (intro W hC; (have cW := (Blk.via hC (by simp) HB.out).cell); go_simp; (first | ((go_at_call 158; refine (HF.out _ hC).mono ?_; rintro e w2 ⟨rfl, hf⟩; exact ⟨rfl, hC.trans hf⟩)) | done | rfl | exact ⟨rfl, rfl⟩))); (try simp only [Act.put, List.getElem_toArray, List.getElem_cons_succ, List.getElem_cons_zero, List.setIfInBounds_toArray, List.set_cons_zero, List.set_cons_succ])); (with_reducible apply qw_do; (kernel_rfl); (focus (intro W hC; (have cW := (Blk.via hC (by simp) HB.out).cell); go_simp; (first | ((go_at_call 158; refine (HF.out _ hC).mono ?_; rintro e w2 ⟨rfl, hf⟩; exact ⟨rfl, hC.trans hf⟩)) | done | rfl | exact ⟨rfl, rfl⟩))); (try simp only [Act.put, List.getElem_toArray, List.getElem_cons_succ, List.getElem_cons_zero, List.setIfInBounds_toArray, List.set_cons_zero, List.set_cons_succ])); (with_reducible apply qw_do; (kernel_rfl); (focus (intro W hC; (have cW := (Blk.via hC (by simp) HB.out).cell); go_simp; (first | ((go_at_call 158; refine (HF.out _ hC).mono ?_; rintro e w2 ⟨rfl, hf⟩; exact ⟨rfl, hC.trans hf⟩)) | done | rfl | exact ⟨rfl, rfl⟩))); (try simp only [Act.put, List.getElem_toArray, List.getElem_cons_succ, List.getElem_cons_zero, List.setIfInBounds_toArray, List.set_cons_zero, List.set_cons_succ])); (with_reducible apply qw_do; (kernel_rfl); (focus (intro W hC; (have cW := (Blk.via hC (by simp) HB.out).cell); go_simp; (first | ((go_at_call 158; refine (HF.out _ hC).mono ?_; rintro e w2 ⟨rfl, hf⟩; exact ⟨rfl, hC.trans hf⟩)) | done | rfl | exact ⟨rfl, rfl⟩))); (try simp only [Act.put, List.getElem_toArray, List.getElem_cons_succ, List.getElem_cons_zero, List.setIfInBounds_toArray, List.set_cons_zero, List.set_cons_succ])); (with_reducible apply qw_do; (kernel_rfl); (focus (intro W hC; (have cW := (Blk.via hC (by simp) HB.out).cell); go_simp; (first | ((go_at_call 158; refine (HF.out _ hC).mono ?_; rintro e w2 ⟨rfl, hf⟩; exact ⟨rfl, hC.trans hf⟩)) | done | rfl | exact ⟨rfl, rfl⟩))); (try simp only [Act.put, List.getElem_toArray, List.getElem_cons_succ, List.getElem_cons_zero, List.setIfInBounds_toArray, List.set_cons_zero, List.set_cons_succ])); (with_reducible apply qw_do; (kernel_rfl); (focus (intro W hC; (have cW := (Blk.via hC (by simp) HB.out).cell); go_simp; (first | ((go_at_call 158; refine (HF.out _ hC).mono ?_; rintro e w2 ⟨rfl, hf⟩; exact ⟨rfl, hC.trans hf⟩)) | done | rfl | exact ⟨rfl, rfl⟩))); (try simp only [Act.put, List.getElem_toArray, List.getElem_cons_succ, List.getElem_cons_zero, List.setIfInBounds_toArray, List.set_cons_zero, List.set_cons_succ])); (with_reducible apply qw_do; (kernel_rfl); (focus (intro W hC; (have cW := (Blk.via hC (by simp) HB.out).cell); go_simp; (first | ((go_at_call 158; refine (HF.out _ hC).mono ?_; rintro e w2 ⟨rfl, hf⟩; exact ⟨rfl, hC.trans hf⟩)) | done | rfl | exact ⟨rfl, rfl⟩))); (try simp only [Act.put, List.getElem_toArray, List.getElem_cons_succ, List.getElem_cons_zero, List.setIfInBounds_toArray, List.set_cons_zero, List.set_cons_succ])); (with_reducible apply qw_do; (kernel_rfl); (focus (intro W hC; (have cW := (Blk.via hC (by simp) HB.out).cell); go_simp; (first | ((go_at_call 158; refine (HF.out _ hC).mono ?_; rintro e w2 ⟨rfl, hf⟩; exact ⟨rfl, hC.trans hf⟩)) | done | rfl | exact ⟨rfl, rfl⟩))); (try simp only [Act.put, List.getElem_toArray, List.getElem_cons_succ, List.getElem_cons_zero, List.setIfInBounds_toArray, List.set_cons_zero, List.set_cons_succ])); (with_reducible apply qw_do; (kernel_rfl); (focus (intro W hC; (have cW := (Blk.via hC (by simp) HB.out).cell); go_simp; (first | ((go_at_call 158; refine (HF.out _ hC).mono ?_; rintro e w2 ⟨rfl, hf⟩; exact ⟨rfl, hC.trans hf⟩)) | done | rfl | exact ⟨rfl, rfl⟩))); (try simp only [Act.put, List.getElem_toArray, List.getElem_cons_succ, List.getElem_cons_zero, List.setIfInBounds_toArray, List.set_cons_zero, List.set_cons_succ])); (with_reducible apply qw_do; (kernel_rfl); (focus (intro W hC; (have cW := (Blk.via hC (by simp) HB.out).cell); go_simp; (first | ((go_at_call 158; refine (HF.out _ hC).mono ?_; rintro e w2 ⟨rfl, hf⟩; exact ⟨rfl, hC.trans hf⟩)) | done | rfl | exact ⟨rfl, rfl⟩))); (try simp only [Act.put, List.getElem_toArray, List.getElem_cons_succ, List.getElem_cons_zero, List.setIfInBounds_toArray, List.set_cons_zero, List.set_cons_succ])); (with_reducible apply qw_do; (kernel_rfl); (focus (intro W hC; (have cW := (Blk.via hC (by simp) HB.out).cell); go_simp; (first | ((go_at_call 158; refine (HF.out _ hC).mono ?_; rintro e w2 ⟨rfl, hf⟩; exact ⟨rfl, hC.trans hf⟩)) | done | rfl | exact ⟨rfl, rfl⟩))); (try simp only [Act.put, List.getElem_toArray, List.getElem_cons_succ, List.getElem_cons_zero, List.setIfInBounds_toArray, List.set_cons_zero, List.set_cons_succ])); with_reducible refine qw_nil ?_
    intro w3 F3
    go_wp2_with fail
    go_ret
    exact ⟨rfl, F3⟩
  · have n1 : ¬ (L.length : Int) < (N : Int) := by omega
    rw [decide_eq_false hn, Bool.and_false]
    go_enter Try.func118, Try.ntmps118
    go_wp2_with fail
    refine qw_region (by kernel_rfl) (by kernel_rfl) ?_; (with_reducible apply qw_do; (kernel_rfl); (focus (intro W hC; (have cW := (Blk.via hC (by simp) HB.out).cell); go_simp; (first | (fail) | done | rfl | exact ⟨rfl, rfl⟩))); (try simp only [Act.put, List.getElem_toArray, List.getElem_cons_succ, List.getElem_cons_zero, List.setIfInBounds_toArray, List.set_cons_zero, List.set_cons_succ])); (with_reducible apply qw_do; (kernel_rfl); (focus (intro W hC; (have cW := (Blk.via hC (by simp) HB.out).cell); go_simp; (first | (fail) | done | rfl | exact ⟨rfl, rfl⟩))); (try simp only [Act.put, List.getElem_toArray, List.getElem_cons_succ, List.getElem_cons_zero, List.setIfInBounds_toArray, List.set_cons_zero, List.set_cons_succ])); (with_reducible apply qw_do; (kernel_rfl); (focus (intro W hC; (have cW := (Blk.via hC (by simp) HB.out).cell); go_simp; (first | (fail) | done | rfl | exact ⟨rfl, rfl⟩))); (try simp only [Act.put, List.getElem_toArray, List.getElem_cons_succ, List.getElem_cons_zero, List.setIfInBounds_toArray, List.set_cons_zero, List.set_cons_succ])); (with_reducible apply qw_do; (kernel_rfl); (focus (intro W hC; (have cW := (Blk.via hC (by simp) HB.out).cell); go_simp; (first | (fail) | done | rfl | exact ⟨rfl, rfl⟩))); (try simp only [Act.put, List.getElem_toArray, List.getElem_cons_succ, List.getElem_cons_zero, List.setIfInBounds_toArray, List.set_cons_zero, List.set_cons_succ])); (with_reducible apply qw_do; (kernel_rfl); (focus (intro W hC; (have cW := (Blk.via hC (by simp) HB.out).cell); go_simp; (first | (fail) | done | rfl | exact ⟨rfl, rfl⟩))); (try simp only [Act.put, List.getElem_toArray, List.getElem_cons_succ, List.getElem_cons_zero, List.setIfInBounds_toArray, List.set_cons_zero, List.set_cons_succ])); (with_reducible apply qw_do; (kernel_rfl); (focus (intro W hC; (have cW := (Blk.via hC (by simp) HB.out).cell); go_simp; (first | (fail) | done | rfl | exact ⟨rfl, rfl⟩))); (try simp only [Act.put, List.getElem_toArray, List.getElem_cons_succ, List.getElem_cons_zero, List.setIfInBounds_toArray, List.set_cons_zero, List.set_cons_succ])); (with_reducible apply qw_do; (kernel_rfl); (focus (intro W hC; (have cW := (Blk.via hC (by simp) HB.out).cell); go_simp; (first | (fail) | done | rfl | exact ⟨rfl, rfl⟩))); (try simp only [Act.put, List.getElem_toArray, List.getElem_cons_succ, List.getElem_cons_zero, List.setIfInBounds_toArray, List.set_cons_zero, List.set_cons_succ])); (with_reducible apply qw_do; (kernel_rfl); (focus (intro W hC; (have cW := (Blk.via hC (by simp) HB.out).cell); go_simp; (first | (fail) | done | rfl | exact ⟨rfl, rfl⟩))); (try simp only [Act.put, List.getElem_toArray, List.getElem_cons_succ, List.getElem_cons_zero, List.setIfInBounds_toArray, List.set_cons_zero, List.set_cons_succ])); (with_reducible apply qw_do; (kernel_rfl); (focus (intro W hC; (have cW := (Blk.via hC (by simp) HB.out).cell); go_simp; (first | (fail) | done | rfl | exact ⟨rfl, rfl⟩))); (try simp only [Act.put, List.getElem_toArray, List.getElem_cons_succ, List.getElem_cons_zero, List.setIfInBounds_toArray, List.set_cons_zero, List.set_cons_succ])); (with_reducible apply qw_do; (kernel_rfl); (focus (intro W hC; (have cW := (Blk.via hC (by simp) HB.out).cell); go_simp; (first | (fail) | done | rfl | exact ⟨rfl, rfl⟩))); (try simp only [Act.put, List.getElem_toArray, List.getElem_cons_succ, List.getElem_cons_zero, List.setIfInBounds_toArray, List.set_cons_zero, List.set_cons_succ])); (with_reducible apply qw_do; (kernel_rfl); (focus (intro W hC; (have cW := (Blk.via hC (by simp) HB.out).cell); go_simp; (first | (fail) | done | rfl | exact ⟨rfl, rfl⟩))); (try simp only [Act.put, List.getElem_toArray, List.getElem_cons_succ, List.getElem_cons_zero, List.setIfInBounds_toArray, List.set_cons_zero, List.set_cons_succ])); (with_reducible apply qw_skip; (kernel_rfl); (try simp only [Act.put, List.getElem_toArray, List.getElem_cons_succ, List.getElem_cons_zero, List.setIfInBounds_toArray, List.set_cons_zero, List.set_cons_succ])); (with_reducible apply qw_skip; (kernel_rfl); (try simp only [Act.put, List.getElem_toArray, List.getElem_cons_succ, List.getElem_cons_zero, List.setIfInBounds_toArray, List.set_cons_zero, List.set_cons_succ])); (with_reducible apply qw_skip; (kernel_rfl); (try simp only [Act.put, List.getElem_toArray, List.getElem_cons_succ, List.getElem_cons_zero, List.setIfInBounds_toArray, List.set_cons_zero, List.set_cons_succ])); (with_reducible apply qw_skip; (kernel_rfl); (try simp only [Act.put, List.getElem_toArray, List.getElem_cons_succ, List.getElem_cons_zero, List.setIfInBounds_toArray, List.set_cons_zero, List.set_cons_succ])); (with_reducible apply qw_do; (kernel_rfl); (focus (intro W hC; (have cW := (Blk.via hC (by simp) HB.out).cell); go_simp; (first | (fail) | done | rfl | exact ⟨rfl, rfl⟩))); (try simp only [Act.put, List.getElem_toArray, List.getElem_cons_succ, List.getElem_cons_zero, List.setIfInBounds_toArray, List.set_cons_zero, List.set_cons_succ])); (with_reducible apply qw_do; (kernel_rfl); (focus (intro W hC; (have cW := (Blk.via hC (by simp) HB.out).cell); go_simp; (first | (fail) | done | rfl | exact ⟨rfl, rfl⟩))); (try simp only [Act.put, List.getElem_toArray, List.getElem_cons_succ, List.getElem_cons_zero, List.setIfInBounds_toArray, List.set_cons_zero, List.set_cons_succ])); with_reducible refine qw_nil ?_
    intro w3 F3
    go_wp2_with fail
    go_ret
    exact ⟨rfl, F3⟩
end Go.Proofs.Ytkimldeagndgjaa

/- The document's book (damperref13): Add, walked. Printed by gen_rfc.py. -/
namespace Go.Proofs.Ytkimldeagndgjaa
set_option linter.unusedVariables false
set_option linter.unusedSimpArgs false
open Go.RowKit

theorem fr_freshA {S : List Nat} {a b c : World} (k : Fr S b c) (hS : ∀ x ∈ S, a.heap.size ≤ x) (h : Fr [] a b) : Fr [] a c :=
  ⟨k.os.trans h.os, k.tape.trans h.tape, k.output.trans h.output, Nat.le_trans h.size k.size, fun i hi _ => (k.block i (Nat.lt_of_lt_of_le hi h.size) (fun hm => by have := hS i hm; omega)).trans (h.block i hi (by simp))⟩

theorem addF_zero {N K : Nat} {L : List Ord} {o : Ord} (h : addF N K L o = 0) : (o.sd = 0 ∨ o.sd = 1) ∧ Good o ∧ (∀ x ∈ L, x.id ≠ o.id) ∧ (fitsB o.sd o.pr L K && decide (L.length < N)) = true := by
  unfold addF at h
  by_cases c1 : o.sd = 0 ∨ o.sd = 1
  · rw [if_neg (fun h => h c1)] at h
    by_cases c2 : Good o
    · rw [if_neg (fun h => h c2)] at h
      by_cases c3 : L.any (fun x => decide (x.id = o.id)) = true
      · rw [if_pos c3] at h; cases h
      · rw [if_neg c3] at h
        by_cases c4 : (fitsB o.sd o.pr L K && decide (L.length < N)) = true
        · exact ⟨c1, c2, fun x hx e => c3 (List.any_eq_true.2 ⟨x, hx, by simp [e]⟩), c4⟩
        · rw [if_neg c4] at h; cases h
    · rw [if_pos c2] at h; cases h
  · rw [if_pos c1] at h; cases h

set_option maxHeartbeats 8000000 in
set_option maxRecDepth 5000 in
theorem refAdd_ok (w : World) (r N K : Nat) (T : List Nat) (L : List Ord) (h : RefB w r T N K L) (hl : L.length ≤ 10000) (o : Ord) (hc : addF N K L o = 0) :
    Calls Try.prog 53 #[.pointer (some ⟨r, 0, none⟩), .agg o.a] w fun e w' => e = .returned (.int .i64 0) ∧ Fr [r] w w' ∧ ∃ T', RefB w' r T' N K (L ++ [o]) ∧ ∀ x ∈ T', x ∈ T ∨ w.heap.size ≤ x := by
  obtain ⟨k1, k2, k3, k4⟩ := addF_zero hc
  have s1 : isSide o.sd = true := by unfold isSide; rcases k1 with e | e <;> rw [e] <;> rfl
  have p1 : ¬ o.pr < 1 := by have := k2.pr; omega
  have p2 : ¬ (1099511627776 : Int) < o.pr := by have := k2.pr; omega
  have p3 : ¬ o.qt < 1 := by have := k2.qt; omega
  have p4 : ¬ (4294967296 : Int) < o.qt := by have := k2.qt; omega
  have p5 : ¬ (0 : Int) ≤ findI L o.id := by have := findI_neg.2 k3; omega
  have HFi := Lib.hid (fun W (hf : Fr [] w W) => refFind W r N K T L (h.fr hf (by simp)) (by omega) o.id)
  have HRo := Lib.hid (fun W (hf : Fr [] w W) => refRoom W r N K T L (h.fr hf (by simp)) hl o.sd o.pr)
  have HSd := Lib.hid (fun W => sided_any W o.sd)
  rw [k4] at HRo
  rw [s1] at HSd
  obtain ⟨v, B, R, rfl⟩ := h
  obtain ⟨A, c, rfl, _⟩ := R.form
  have HR := Lib.hid R
  have HB := Lib.hid B
  have HL := Lib.hid hl
  have HRl := Lib.hid B.lt
  generalize findI L o.id = fi at HFi p5
  clear R B hl hc k1 k2 k3 k4 s1
  go_enter Try.func53, Try.ntmps53
  go_wp2_with fail
  refine calls_named (fun W0 hW => ?_)
  have B0 := Blk.box0 hW
  have F0 : Fr [] w W0 := Fr.eqv hW (by with_reducible repeat (first | exact Fr.refl _ _ | assumption | apply Fr.drew | apply Fr.drewN | apply Fr.alloc | (apply Fr.step; assumption; (intro _ h; (first | exact h | (focus (simp_all; done))))) | (apply Fr.setIn; (first | exact List.mem_cons_self | exact List.mem_cons_of_mem _ List.mem_cons_self | exact List.mem_cons_of_mem _ (List.mem_cons_of_mem _ List.mem_cons_self) | exact List.mem_cons_of_mem _ (List.mem_cons_of_mem _ (List.mem_cons_of_mem _ List.mem_cons_self)))) | (apply Fr.setNew; (first | omega | (simp; omega)))))
  clear hW
  refine (HSd.out _).mono ?_
  rintro e w1 ⟨rfl, rfl⟩
  have c0 := B0.cell
  go_wp2_with fail
  refine (HFi.out _ F0).mono ?_
  rintro e w2 ⟨rfl, F2⟩
  have B2 := Blk.via F2 (by simp) B0
  have F02 := F0.trans F2
  have c2 := B2.cell
  clear B0 F0 c0 F2
  go_wp2_with fail
  refine (HRo.out _ F02).mono ?_
  rintro e w3 ⟨rfl, F3⟩
  have B3 := Blk.via F3 (by simp) B2
  have F03 := F02.trans F3
  clear B2 F02 c2 F3
  go_wp2_with fail
  refine wp_name (fun Wz hW => ?_)
  have Bz := Blk.eqv hW B3
  have Fz : Fr [] w Wz := Fr.eqv hW F03
  have zz : w.heap.size + 1 ≤ Wz.heap.size := Bz.lt
  clear hW B3 F03
  refine u_region (S := fun w' => w'.cell? ⟨r, 2, none⟩ = some (.slice A L.length c) ∧ ∀ i, w'.cell? ⟨w.heap.size, i, none⟩ = (o.a)[i]?) 12 (by kernel_rfl) (by kernel_rfl) (by kernel_rfl) (by kernel_rfl) (by kernel_rfl) ⟨((Blk.via Fz.drew (by simp) HB.out).cell 2).trans rfl, fun i => Bz.drew.cell i⟩ ?_
  generalize hWy : Wz.drew = Wy
  have Fy : Fr [] w Wy := Fr.eqv hWy.symm Fz.drew
  have By : Blk Wy w.heap.size 43 o.a := Blk.eqv hWy.symm Bz.drew
  have zzy : w.heap.size + 1 ≤ Wy.heap.size := By.lt
  clear hWy Fz Bz zz
  (refine u_take 0 (v := ?_) rfl rfl (by kernel_rfl) (by kernel_rfl) (fun _ _ _ h => h) (Or.inl ⟨by rfl, ?_⟩) ?_; rotate_left; (focus (intro wz hSw; (try dsimp only at hSw); go_simp; (try with_reducible rfl))); (try simp only [Act.put, List.getElem_toArray, List.getElem_cons_succ, List.getElem_cons_zero, List.setIfInBounds_toArray, List.set_cons_zero, List.set_cons_succ]))
  (refine u_take 2 (v := ?_) rfl rfl (by kernel_rfl) (by kernel_rfl) (fun _ _ _ h => h) (Or.inl ⟨by rfl, ?_⟩) ?_; rotate_left; (focus (intro wz hSw; (try dsimp only at hSw); go_simp; (try with_reducible rfl))); (try simp only [Act.put, List.getElem_toArray, List.getElem_cons_succ, List.getElem_cons_zero, List.setIfInBounds_toArray, List.set_cons_zero, List.set_cons_succ]))
  (refine u_take 3 (v := ?_) rfl rfl (by kernel_rfl) (by kernel_rfl) (fun _ _ _ h => h) (Or.inl ⟨by rfl, ?_⟩) ?_; rotate_left; (focus (intro wz hSw; (try dsimp only at hSw); go_simp; (try with_reducible rfl))); (try simp only [Act.put, List.getElem_toArray, List.getElem_cons_succ, List.getElem_cons_zero, List.setIfInBounds_toArray, List.set_cons_zero, List.set_cons_succ]))
  (refine u_take 4 (v := ?_) rfl rfl (by kernel_rfl) (by kernel_rfl) (fun _ _ _ h => h) (Or.inl ⟨by rfl, ?_⟩) ?_; rotate_left; (focus (intro wz hSw; (try dsimp only at hSw); go_simp; (try with_reducible rfl))); (try simp only [Act.put, List.getElem_toArray, List.getElem_cons_succ, List.getElem_cons_zero, List.setIfInBounds_toArray, List.set_cons_zero, List.set_cons_succ]))
  (refine u_take 5 (v := ?_) rfl rfl (by kernel_rfl) (by kernel_rfl) (fun _ _ _ h => h) (Or.inl ⟨by rfl, ?_⟩) ?_; rotate_left; (focus (intro wz hSw; (try dsimp only at hSw); go_simp; (try with_reducible rfl))); (try simp only [Act.put, List.getElem_toArray, List.getElem_cons_succ, List.getElem_cons_zero, List.setIfInBounds_toArray, List.set_cons_zero, List.set_cons_succ]))
  (refine u_take 7 (v := ?_) rfl rfl (by kernel_rfl) (by kernel_rfl) (fun _ _ _ h => h) (Or.inl ⟨by rfl, ?_⟩) ?_; rotate_left; (focus (intro wz hSw; (try dsimp only at hSw); go_simp; (try with_reducible rfl))); (try simp only [Act.put, List.getElem_toArray, List.getElem_cons_succ, List.getElem_cons_zero, List.setIfInBounds_toArray, List.set_cons_zero, List.set_cons_succ]))
  refine u_two 1 8 (by kernel_rfl) rfl rfl rfl rfl (fun Kq hKq => ?_) (fun Kq hKq => ?_)
  · go_simp
    generalize hW' : World.alloc Wy _ = Wa
    have hW := hW'.symm
    have Fa : Fr [] w Wa := Fr.eqv hW (Fy.alloc _)
    have Ba : Blk Wa w.heap.size 43 o.a := Blk.eqv hW (By.alloc _)
    have Ra : RowO Wa (.slice (some ⟨Wy.heap.size, 0, none⟩) 0 0) [] := by subst hW; exact RowS.empty _ _ _ _
    have za : Wy.heap.size < Wa.heap.size := by rw [hW]; simp
    have zza : w.heap.size + 1 ≤ Wa.heap.size := by omega
    clear hW hW'
    refine hKq _ _ ⟨((Blk.via Fa (by simp) HB.out).cell 2).trans rfl, fun i => Ba.cell i⟩ ?_
    clear hKq Kq
    (try simp only [Act.put, List.getElem_toArray, List.getElem_cons_succ, List.getElem_cons_zero, List.setIfInBounds_toArray, List.set_cons_zero, List.set_cons_succ])
    refine u_two 6 8 (by kernel_rfl) rfl rfl rfl rfl (fun Kq hKq => ?_) (fun Kq hKq => ?_)
    · refine step_appG _ rfl (.tmp 44) (.tmp 48) 22 43 rfl encO_ok (.slice (some ⟨Wy.heap.size, 0, none⟩) 0 0) [] rfl ?ow A L.length c L rfl rfl ?sr ?bd ?_
      case ow => exact Ra
      case sr => exact (HR.out.fr Fa (by simp)).src rfl
      case bd => have := HL.out; simp; omega
      intro v1 Wd Rd Gd hv1
      have Fd : Fr [] w Wd := fr_freshA Gd (fun x hx => by have := (by simpa [Value.ownBlock] using hx : x = Wy.heap.size); omega) Fa
      have hv4 : ∀ k, v1.ownBlock = some k → w.heap.size + 1 ≤ k := fun k hk => by
        rcases hv1 with h | h
        · rw [h] at hk; simp [Value.ownBlock] at hk; omega
        · rw [h] at hk; cases hk; have := zza; omega
      have Bd := Blk.via Gd (fun hm => by have := (by simpa [Value.ownBlock] using hm : w.heap.size = Wy.heap.size); omega) Ba
      have zzd : w.heap.size + 1 ≤ Wd.heap.size := Bd.lt
      refine hKq _ _ ⟨((Blk.via Fd (by simp) HB.out).cell 2).trans rfl, fun i => Bd.cell i⟩ ?_
      clear hKq Kq
      (try simp only [Act.put, List.getElem_toArray, List.getElem_cons_succ, List.getElem_cons_zero, List.setIfInBounds_toArray, List.set_cons_zero, List.set_cons_succ])
      refine u_one 8 (by kernel_rfl) rfl rfl (fun Kq hKq => ?_)
      go_simp
      generalize hW' : World.alloc Wd _ = Wb
      have hW := hW'.symm
      have Fb : Fr [] w Wb := Fr.eqv hW (Fd.alloc _)
      have Bb : Blk Wb w.heap.size 43 o.a := Blk.eqv hW (Bd.alloc _)
      have Ob : Blk Wb Wd.heap.size 43 o.a := Blk.box0 hW
      have zb : Wd.heap.size < Wb.heap.size := by rw [hW]; simp
      have zzb : w.heap.size + 1 ≤ Wb.heap.size := by omega
      have R4 : RowO Wb v1 L := by rw [← List.nil_append L]; exact Rd.fr (S := []) (Fr.eqv hW ((Fr.refl _ _).alloc _)) (by simp)
      clear hW hW'
      refine hKq _ _ ⟨((Blk.via Fb (by simp) HB.out).cell 2).trans rfl, fun i => Bb.cell i⟩ ?_
      clear hKq Kq
      (try simp only [Act.put, List.getElem_toArray, List.getElem_cons_succ, List.getElem_cons_zero, List.setIfInBounds_toArray, List.set_cons_zero, List.set_cons_succ])
      have O4 := Ob
      have F4 := Fb
      have B4 := Bb
      have z4 := zzb
      clear Ra Rd Ob Gd hv1
      obtain ⟨A1, c1, rfl, _⟩ := R4.form
      refine u_one 9 (by kernel_rfl) rfl rfl (fun Kq hKq => ?_)
      refine step_appG _ rfl (.tmp 49) (.tmp 51) 22 43 rfl encO_ok (.slice A1 L.length c1) L rfl ?ow (some ⟨Wd.heap.size, 0, none⟩) 1 1 [o] rfl rfl ?sr ?bd ?_
      case ow => exact R4
      case sr => exact src_blk O4
      case bd => have := HL.out; omega
      intro v2 w5 R5 F5 hv5
      have F05 : Fr [] w w5 := fr_freshA F5 (fun x hx => by have := hv4 x (by simpa using hx); omega) F4
      have HP5 := Lib.hid (Blk.via F05 (by simp) HB.out)
      have B5 := Blk.via F5 (fun hm => by have := hv4 _ (by simpa using hm); omega) B4
      refine hKq _ _ ⟨(HP5.out.cell 2).trans rfl, fun i => B5.cell i⟩ ?_
      clear hKq Kq
      (try simp only [Act.put, List.getElem_toArray, List.getElem_cons_succ, List.getElem_cons_zero, List.setIfInBounds_toArray, List.set_cons_zero, List.set_cons_succ])
      (refine u_take 10 (v := ?_) rfl rfl (by kernel_rfl) (by kernel_rfl) (fun _ _ _ h => h) (Or.inl ⟨by rfl, ?_⟩) ?_; rotate_left; (focus (intro wz hSw; (try dsimp only at hSw); go_simp; (try with_reducible rfl))); (try simp only [Act.put, List.getElem_toArray, List.getElem_cons_succ, List.getElem_cons_zero, List.setIfInBounds_toArray, List.set_cons_zero, List.set_cons_succ]))
      (refine u_take 11 (v := ?_) rfl rfl (by kernel_rfl) (by kernel_rfl) (fun _ _ _ h => h) (Or.inl ⟨by rfl, ?_⟩) ?_; rotate_left; (focus (intro wz hSw; (try dsimp only at hSw); go_simp; (try with_reducible rfl))); (try simp only [Act.put, List.getElem_toArray, List.getElem_cons_succ, List.getElem_cons_zero, List.setIfInBounds_toArray, List.set_cons_zero, List.set_cons_succ]))
      refine u_last (by kernel_rfl) rfl (by kernel_rfl) ?_
      have hv2 : ∀ k, v2.ownBlock = some k → w.heap.size ≤ k := fun k hk => by
        rcases hv5 with h | h
        · have := hv4 k (by rw [← h, hk]); omega
        · rw [h] at hk; cases hk; have := F4.size; omega
      obtain ⟨A2, c2, e2, _⟩ := R5.form
      simp only [List.length_append, List.length_cons, List.length_nil, Nat.zero_add] at e2
      subst e2
      have HR5 := Lib.hid R5
      have HV2 := Lib.hid hv2
      have p5 := HP5.out.cell
      have f5 := HP5.out.frozen
      have l5 := HP5.out.lt
      clear R5 hv2 hv5 F5 B5 R4 O4 B4 F4 hv4
      go_wp2_with fail
      go_ret
      exact ⟨rfl, (F05.mono (by simp)).setIn (by simp), _, ⟨_, (HP5.out.same 2 _).cast rfl, HR5.out.fr (S := [r]) (Fr.setIn (by simp) (Fr.refl _ _)) (fun k hk hm => by have := HV2.out k hk; have := List.mem_singleton.1 hm; have := HRl.out; omega), rfl⟩, fun x hx => by
        rcases List.mem_cons.1 hx with rfl | hx
        · exact .inl (by simp)
        · exact .inr (HV2.out x (by simpa using hx))⟩
    · go_simp
      generalize hW' : World.alloc Wa _ = Wb
      have hW := hW'.symm
      have Fb : Fr [] w Wb := Fr.eqv hW (Fa.alloc _)
      have Bb : Blk Wb w.heap.size 43 o.a := Blk.eqv hW (Ba.alloc _)
      have Ob : Blk Wb Wa.heap.size 43 o.a := Blk.box0 hW
      have zb : Wa.heap.size < Wb.heap.size := by rw [hW]; simp
      have zzb : w.heap.size + 1 ≤ Wb.heap.size := by omega
      have Rb : RowO Wb (.slice (some ⟨Wy.heap.size, 0, none⟩) 0 0) [] := Ra.fr (S := []) (Fr.eqv hW ((Fr.refl _ _).alloc _)) (by simp)
      clear hW hW'
      refine hKq _ _ ⟨((Blk.via Fb (by simp) HB.out).cell 2).trans rfl, fun i => Bb.cell i⟩ ?_
      clear hKq Kq
      (try simp only [Act.put, List.getElem_toArray, List.getElem_cons_succ, List.getElem_cons_zero, List.setIfInBounds_toArray, List.set_cons_zero, List.set_cons_succ])
      refine u_one 6 (by kernel_rfl) rfl rfl (fun Kq hKq => ?_)
      refine step_appG _ rfl (.tmp 44) (.tmp 48) 22 43 rfl encO_ok (.slice (some ⟨Wy.heap.size, 0, none⟩) 0 0) [] rfl ?ow A L.length c L rfl rfl ?sr ?bd ?_
      case ow => exact Rb
      case sr => exact (HR.out.fr Fb (by simp)).src rfl
      case bd => have := HL.out; simp; omega
      intro v1 Wd Rd Gd hv1
      have Fd : Fr [] w Wd := fr_freshA Gd (fun x hx => by have := (by simpa [Value.ownBlock] using hx : x = Wy.heap.size); omega) Fb
      have hv4 : ∀ k, v1.ownBlock = some k → w.heap.size + 1 ≤ k := fun k hk => by
        rcases hv1 with h | h
        · rw [h] at hk; simp [Value.ownBlock] at hk; omega
        · rw [h] at hk; cases hk; have := zzb; omega
      have Bd := Blk.via Gd (fun hm => by have := (by simpa [Value.ownBlock] using hm : w.heap.size = Wy.heap.size); omega) Bb
      have zzd : w.heap.size + 1 ≤ Wd.heap.size := Bd.lt
      have O4 := Blk.via Gd (fun hm => by have := (by simpa [Value.ownBlock] using hm : Wa.heap.size = Wy.heap.size); omega) Ob
      refine hKq _ _ ⟨((Blk.via Fd (by simp) HB.out).cell 2).trans rfl, fun i => Bd.cell i⟩ ?_
      clear hKq Kq
      (try simp only [Act.put, List.getElem_toArray, List.getElem_cons_succ, List.getElem_cons_zero, List.setIfInBounds_toArray, List.set_cons_zero, List.set_cons_succ])
      have R4 : RowO Wd v1 L := by rw [← List.nil_append L]; exact Rd
      have F4 := Fd
      have B4 := Bd
      clear Ra Rb Rd Ob Gd hv1
      obtain ⟨A1, c1, rfl, _⟩ := R4.form
      refine u_one 9 (by kernel_rfl) rfl rfl (fun Kq hKq => ?_)
      refine step_appG _ rfl (.tmp 49) (.tmp 51) 22 43 rfl encO_ok (.slice A1 L.length c1) L rfl ?ow (some ⟨Wa.heap.size, 0, none⟩) 1 1 [o] rfl rfl ?sr ?bd ?_
      case ow => exact R4
      case sr => exact src_blk O4
      case bd => have := HL.out; omega
      intro v2 w5 R5 F5 hv5
      have F05 : Fr [] w w5 := fr_freshA F5 (fun x hx => by have := hv4 x (by simpa using hx); omega) F4
      have HP5 := Lib.hid (Blk.via F05 (by simp) HB.out)
      have B5 := Blk.via F5 (fun hm => by have := hv4 _ (by simpa using hm); omega) B4
      refine hKq _ _ ⟨(HP5.out.cell 2).trans rfl, fun i => B5.cell i⟩ ?_
      clear hKq Kq
      (try simp only [Act.put, List.getElem_toArray, List.getElem_cons_succ, List.getElem_cons_zero, List.setIfInBounds_toArray, List.set_cons_zero, List.set_cons_succ])
      (refine u_take 10 (v := ?_) rfl rfl (by kernel_rfl) (by kernel_rfl) (fun _ _ _ h => h) (Or.inl ⟨by rfl, ?_⟩) ?_; rotate_left; (focus (intro wz hSw; (try dsimp only at hSw); go_simp; (try with_reducible rfl))); (try simp only [Act.put, List.getElem_toArray, List.getElem_cons_succ, List.getElem_cons_zero, List.setIfInBounds_toArray, List.set_cons_zero, List.set_cons_succ]))
      (refine u_take 11 (v := ?_) rfl rfl (by kernel_rfl) (by kernel_rfl) (fun _ _ _ h => h) (Or.inl ⟨by rfl, ?_⟩) ?_; rotate_left; (focus (intro wz hSw; (try dsimp only at hSw); go_simp; (try with_reducible rfl))); (try simp only [Act.put, List.getElem_toArray, List.getElem_cons_succ, List.getElem_cons_zero, List.setIfInBounds_toArray, List.set_cons_zero, List.set_cons_succ]))
      refine u_last (by kernel_rfl) rfl (by kernel_rfl) ?_
      have hv2 : ∀ k, v2.ownBlock = some k → w.heap.size ≤ k := fun k hk => by
        rcases hv5 with h | h
        · have := hv4 k (by rw [← h, hk]); omega
        · rw [h] at hk; cases hk; have := F4.size; omega
      obtain ⟨A2, c2, e2, _⟩ := R5.form
      simp only [List.length_append, List.length_cons, List.length_nil, Nat.zero_add] at e2
      subst e2
      have HR5 := Lib.hid R5
      have HV2 := Lib.hid hv2
      have p5 := HP5.out.cell
      have f5 := HP5.out.frozen
      have l5 := HP5.out.lt
      clear R5 hv2 hv5 F5 B5 R4 O4 B4 F4 hv4
      go_wp2_with fail
      go_ret
      exact ⟨rfl, (F05.mono (by simp)).setIn (by simp), _, ⟨_, (HP5.out.same 2 _).cast rfl, HR5.out.fr (S := [r]) (Fr.setIn (by simp) (Fr.refl _ _)) (fun k hk hm => by have := HV2.out k hk; have := List.mem_singleton.1 hm; have := HRl.out; omega), rfl⟩, fun x hx => by
        rcases List.mem_cons.1 hx with rfl | hx
        · exact .inl (by simp)
        · exact .inr (HV2.out x (by simpa using hx))⟩
  · go_simp
    generalize hW' : World.alloc Wy _ = Wa
    have hW := hW'.symm
    have Fa : Fr [] w Wa := Fr.eqv hW (Fy.alloc _)
    have Ba : Blk Wa w.heap.size 43 o.a := Blk.eqv hW (By.alloc _)
    have Oa : Blk Wa Wy.heap.size 43 o.a := Blk.box0 hW
    have za : Wy.heap.size < Wa.heap.size := by rw [hW]; simp
    have zza : w.heap.size + 1 ≤ Wa.heap.size := by omega
    clear hW hW'
    refine hKq _ _ ⟨((Blk.via Fa (by simp) HB.out).cell 2).trans rfl, fun i => Ba.cell i⟩ ?_
    clear hKq Kq
    (try simp only [Act.put, List.getElem_toArray, List.getElem_cons_succ, List.getElem_cons_zero, List.setIfInBounds_toArray, List.set_cons_zero, List.set_cons_succ])
    refine u_one 1 (by kernel_rfl) rfl rfl (fun Kq hKq => ?_)
    go_simp
    generalize hW' : World.alloc Wa _ = Wb
    have hW := hW'.symm
    have Fb : Fr [] w Wb := Fr.eqv hW (Fa.alloc _)
    have Bb : Blk Wb w.heap.size 43 o.a := Blk.eqv hW (Ba.alloc _)
    have Rb : RowO Wb (.slice (some ⟨Wa.heap.size, 0, none⟩) 0 0) [] := by subst hW; exact RowS.empty _ _ _ _
    have zb : Wa.heap.size < Wb.heap.size := by rw [hW]; simp
    have zzb : w.heap.size + 1 ≤ Wb.heap.size := by omega
    have Ob := Blk.eqv hW (Oa.alloc _)
    clear hW hW'
    refine hKq _ _ ⟨((Blk.via Fb (by simp) HB.out).cell 2).trans rfl, fun i => Bb.cell i⟩ ?_
    clear hKq Kq
    (try simp only [Act.put, List.getElem_toArray, List.getElem_cons_succ, List.getElem_cons_zero, List.setIfInBounds_toArray, List.set_cons_zero, List.set_cons_succ])
    refine u_one 6 (by kernel_rfl) rfl rfl (fun Kq hKq => ?_)
    refine step_appG _ rfl (.tmp 44) (.tmp 48) 22 43 rfl encO_ok (.slice (some ⟨Wa.heap.size, 0, none⟩) 0 0) [] rfl ?ow A L.length c L rfl rfl ?sr ?bd ?_
    case ow => exact Rb
    case sr => exact (HR.out.fr Fb (by simp)).src rfl
    case bd => have := HL.out; simp; omega
    intro v1 Wd Rd Gd hv1
    have Fd : Fr [] w Wd := fr_freshA Gd (fun x hx => by have := (by simpa [Value.ownBlock] using hx : x = Wa.heap.size); omega) Fb
    have hv4 : ∀ k, v1.ownBlock = some k → w.heap.size + 1 ≤ k := fun k hk => by
      rcases hv1 with h | h
      · rw [h] at hk; simp [Value.ownBlock] at hk; omega
      · rw [h] at hk; cases hk; have := zzb; omega
    have Bd := Blk.via Gd (fun hm => by have := (by simpa [Value.ownBlock] using hm : w.heap.size = Wa.heap.size); omega) Bb
    have zzd : w.heap.size + 1 ≤ Wd.heap.size := Bd.lt
    have O4 := Blk.via Gd (fun hm => by have := (by simpa [Value.ownBlock] using hm : Wy.heap.size = Wa.heap.size); omega) Ob
    refine hKq _ _ ⟨((Blk.via Fd (by simp) HB.out).cell 2).trans rfl, fun i => Bd.cell i⟩ ?_
    clear hKq Kq
    (try simp only [Act.put, List.getElem_toArray, List.getElem_cons_succ, List.getElem_cons_zero, List.setIfInBounds_toArray, List.set_cons_zero, List.set_cons_succ])
    have R4 : RowO Wd v1 L := by rw [← List.nil_append L]; exact Rd
    have F4 := Fd
    have B4 := Bd
    clear Oa Rb Rd Ob Gd hv1
    obtain ⟨A1, c1, rfl, _⟩ := R4.form
    refine u_one 9 (by kernel_rfl) rfl rfl (fun Kq hKq => ?_)
    refine step_appG _ rfl (.tmp 49) (.tmp 51) 22 43 rfl encO_ok (.slice A1 L.length c1) L rfl ?ow (some ⟨Wy.heap.size, 0, none⟩) 1 1 [o] rfl rfl ?sr ?bd ?_
    case ow => exact R4
    case sr => exact src_blk O4
    case bd => have := HL.out; omega
    intro v2 w5 R5 F5 hv5
    have F05 : Fr [] w w5 := fr_freshA F5 (fun x hx => by have := hv4 x (by simpa using hx); omega) F4
    have HP5 := Lib.hid (Blk.via F05 (by simp) HB.out)
    have B5 := Blk.via F5 (fun hm => by have := hv4 _ (by simpa using hm); omega) B4
    refine hKq _ _ ⟨(HP5.out.cell 2).trans rfl, fun i => B5.cell i⟩ ?_
    clear hKq Kq
    (try simp only [Act.put, List.getElem_toArray, List.getElem_cons_succ, List.getElem_cons_zero, List.setIfInBounds_toArray, List.set_cons_zero, List.set_cons_succ])
    (refine u_take 10 (v := ?_) rfl rfl (by kernel_rfl) (by kernel_rfl) (fun _ _ _ h => h) (Or.inl ⟨by rfl, ?_⟩) ?_; rotate_left; (focus (intro wz hSw; (try dsimp only at hSw); go_simp; (try with_reducible rfl))); (try simp only [Act.put, List.getElem_toArray, List.getElem_cons_succ, List.getElem_cons_zero, List.setIfInBounds_toArray, List.set_cons_zero, List.set_cons_succ]))
    (refine u_take 11 (v := ?_) rfl rfl (by kernel_rfl) (by kernel_rfl) (fun _ _ _ h => h) (Or.inl ⟨by rfl, ?_⟩) ?_; rotate_left; (focus (intro wz hSw; (try dsimp only at hSw); go_simp; (try with_reducible rfl))); (try simp only [Act.put, List.getElem_toArray, List.getElem_cons_succ, List.getElem_cons_zero, List.setIfInBounds_toArray, List.set_cons_zero, List.set_cons_succ]))
    refine u_last (by kernel_rfl) rfl (by kernel_rfl) ?_
    have hv2 : ∀ k, v2.ownBlock = some k → w.heap.size ≤ k := fun k hk => by
      rcases hv5 with h | h
      · have := hv4 k (by rw [← h, hk]); omega
      · rw [h] at hk; cases hk; have := F4.size; omega
    obtain ⟨A2, c2, e2, _⟩ := R5.form
    simp only [List.length_append, List.length_cons, List.length_nil, Nat.zero_add] at e2
    subst e2
    have HR5 := Lib.hid R5
    have HV2 := Lib.hid hv2
    have p5 := HP5.out.cell
    have f5 := HP5.out.frozen
    have l5 := HP5.out.lt
    clear R5 hv2 hv5 F5 B5 R4 O4 B4 F4 hv4
    go_wp2_with fail
    go_ret
    exact ⟨rfl, (F05.mono (by simp)).setIn (by simp), _, ⟨_, (HP5.out.same 2 _).cast rfl, HR5.out.fr (S := [r]) (Fr.setIn (by simp) (Fr.refl _ _)) (fun k hk hm => by have := HV2.out k hk; have := List.mem_singleton.1 hm; have := HRl.out; omega), rfl⟩, fun x hx => by
      rcases List.mem_cons.1 hx with rfl | hx
      · exact .inl (by simp)
      · exact .inr (HV2.out x (by simpa using hx))⟩
end Go.Proofs.Ytkimldeagndgjaa

/- The document's book (damperref13): Add, whatever is added; a book of some orders, twice (damperlaw14.Books), walked. -/
namespace Go.Proofs.Ytkimldeagndgjaa
set_option linter.unusedVariables false
set_option linter.unusedSimpArgs false
open Go.RowKit

set_option maxHeartbeats 4000000 in
theorem refAdd_bad (w : World) (r N K : Nat) (T : List Nat) (L : List Ord) (h : RefB w r T N K L) (hl : L.length ≤ 10000) (o : Ord) (hc : addF N K L o ≠ 0) :
    Calls Try.prog 53 #[.pointer (some ⟨r, 0, none⟩), .agg o.a] w fun e w' => e = .returned (.int .i64 (addF N K L o)) ∧ Fr [] w w' := by
  have HFi := Lib.hid (fun W (hf : Fr [] w W) => refFind W r N K T L (h.fr hf (by simp)) (by omega) o.id)
  have HRo := Lib.hid (fun W (hf : Fr [] w W) => refRoom W r N K T L (h.fr hf (by simp)) hl o.sd o.pr)
  have HSd := Lib.hid (fun W => sided_any W o.sd)
  clear h hl
  unfold addF at hc ⊢
  by_cases c1 : o.sd = 0 ∨ o.sd = 1
  · have s1 : isSide o.sd = true := by unfold isSide; rcases c1 with e | e <;> rw [e] <;> rfl
    rw [if_neg (fun h => h c1)] at hc ⊢
    rw [s1] at HSd
    by_cases c2 : Good o
    · have p1 : ¬ o.pr < 1 := by have := c2.pr; omega
      have p2 : ¬ (1099511627776 : Int) < o.pr := by have := c2.pr; omega
      have p3 : ¬ o.qt < 1 := by have := c2.qt; omega
      have p4 : ¬ (4294967296 : Int) < o.qt := by have := c2.qt; omega
      rw [if_neg (fun h => h c2)] at hc ⊢
      by_cases c3 : L.any (fun x => decide (x.id = o.id)) = true
      · have p5 : (0 : Int) ≤ findI L o.id := by
          have := findI_any (L := L) (id := o.id)
          rw [c3] at this
          simp at this; omega
        rw [if_pos c3]
        generalize findI L o.id = fi at HFi p5
        clear HRo c1 c2 c3 s1 hc
        go_enter Try.func53, Try.ntmps53
        go_wp2_with fail
        refine calls_named (fun W0 hW => ?_)
        have B0 := Blk.box0 hW
        have F0 : Fr [] w W0 := Fr.eqv hW (by with_reducible repeat (first | exact Fr.refl _ _ | assumption | apply Fr.drew | apply Fr.drewN | apply Fr.alloc | (apply Fr.step; assumption; (intro _ h; (first | exact h | (focus (simp_all; done))))) | (apply Fr.setIn; (first | exact List.mem_cons_self | exact List.mem_cons_of_mem _ List.mem_cons_self | exact List.mem_cons_of_mem _ (List.mem_cons_of_mem _ List.mem_cons_self) | exact List.mem_cons_of_mem _ (List.mem_cons_of_mem _ (List.mem_cons_of_mem _ List.mem_cons_self)))) | (apply Fr.setNew; (first | omega | (simp; omega)))))
        clear hW
        refine (HSd.out _).mono ?_
        rintro e w1 ⟨rfl, rfl⟩
        have c0 := B0.cell
        go_wp2_with fail
        refine (HFi.out _ F0).mono ?_
        rintro e w2 ⟨rfl, F2⟩
        go_wp2_with fail
        go_ret
        exact ⟨rfl, F0.trans F2⟩
      · have p5 : ¬ (0 : Int) ≤ findI L o.id := by
          have := findI_any (L := L) (id := o.id)
          rw [show L.any (fun x => decide (x.id = o.id)) = false by simpa using c3] at this
          simp at this; omega
        rw [if_neg c3] at hc ⊢
        by_cases c4 : (fitsB o.sd o.pr L K && decide (L.length < N)) = true
        · exact absurd (if_pos c4) hc
        · rw [if_neg c4]
          rw [show (fitsB o.sd o.pr L K && decide (L.length < N)) = false by simpa using c4] at HRo
          generalize findI L o.id = fi at HFi p5
          clear c1 c2 c3 s1 hc c4
          go_enter Try.func53, Try.ntmps53
          go_wp2_with fail
          refine calls_named (fun W0 hW => ?_)
          have B0 := Blk.box0 hW
          have F0 : Fr [] w W0 := Fr.eqv hW (by with_reducible repeat (first | exact Fr.refl _ _ | assumption | apply Fr.drew | apply Fr.drewN | apply Fr.alloc | (apply Fr.step; assumption; (intro _ h; (first | exact h | (focus (simp_all; done))))) | (apply Fr.setIn; (first | exact List.mem_cons_self | exact List.mem_cons_of_mem _ List.mem_cons_self | exact List.mem_cons_of_mem _ (List.mem_cons_of_mem _ List.mem_cons_self) | exact List.mem_cons_of_mem _ (List.mem_cons_of_mem _ (List.mem_cons_of_mem _ List.mem_cons_self)))) | (apply Fr.setNew; (first | omega | (simp; omega)))))
          clear hW
          refine (HSd.out _).mono ?_
          rintro e w1 ⟨rfl, rfl⟩
          have c0 := B0.cell
          go_wp2_with fail
          refine (HFi.out _ F0).mono ?_
          rintro e w2 ⟨rfl, F2⟩
          have B2 := Blk.via F2 (by simp) B0
          have F02 := F0.trans F2
          have c2 := B2.cell
          clear B0 F0 c0 F2
          go_wp2_with fail
          refine (HRo.out _ F02).mono ?_
          rintro e w3 ⟨rfl, F3⟩
          go_wp2_with fail
          go_ret
          exact ⟨rfl, F02.trans F3⟩
    · rw [if_pos c2] at hc ⊢
      have hcase : o.pr < 1 ∨ (¬ o.pr < 1 ∧ (1099511627776 : Int) < o.pr) ∨ (¬ o.pr < 1 ∧ ¬ (1099511627776 : Int) < o.pr ∧ o.qt < 1) ∨ (¬ o.pr < 1 ∧ ¬ (1099511627776 : Int) < o.pr ∧ ¬ o.qt < 1 ∧ (4294967296 : Int) < o.qt) := by
        rcases Classical.em (o.pr < 1) with h | h
        · exact .inl h
        · rcases Classical.em ((1099511627776 : Int) < o.pr) with h2 | h2
          · exact .inr (.inl ⟨h, h2⟩)
          · rcases Classical.em (o.qt < 1) with h3 | h3
            · exact .inr (.inr (.inl ⟨h, h2, h3⟩))
            · refine .inr (.inr (.inr ⟨h, h2, h3, ?_⟩))
              rcases Classical.em ((4294967296 : Int) < o.qt) with h4 | h4
              · exact h4
              · exact absurd (⟨c1, ⟨by omega, by omega⟩, ⟨by omega, by omega⟩⟩ : Good o) c2
      clear HFi HRo c1 c2 s1 hc
      rcases hcase with p1 | ⟨p1, p2⟩ | ⟨p1, p2, p3⟩ | ⟨p1, p2, p3, p4⟩
      all_goals
        go_enter Try.func53, Try.ntmps53
        go_wp2_with fail
        refine calls_named (fun W0 hW => ?_)
        have B0 := Blk.box0 hW
        have F0 : Fr [] w W0 := Fr.eqv hW (by with_reducible repeat (first | exact Fr.refl _ _ | assumption | apply Fr.drew | apply Fr.drewN | apply Fr.alloc | (apply Fr.step; assumption; (intro _ h; (first | exact h | (focus (simp_all; done))))) | (apply Fr.setIn; (first | exact List.mem_cons_self | exact List.mem_cons_of_mem _ List.mem_cons_self | exact List.mem_cons_of_mem _ (List.mem_cons_of_mem _ List.mem_cons_self) | exact List.mem_cons_of_mem _ (List.mem_cons_of_mem _ (List.mem_cons_of_mem _ List.mem_cons_self)))) | (apply Fr.setNew; (first | omega | (simp; omega)))))
        clear hW
        refine (HSd.out _).mono ?_
        rintro e w1 ⟨rfl, rfl⟩
        have c0 := B0.cell
        go_wp2_with fail
        go_ret
        exact ⟨rfl, F0⟩
  · have s1 : isSide o.sd = false := by unfold isSide; simp; exact ⟨fun e => c1 (.inl e), fun e => c1 (.inr e)⟩
    rw [if_pos c1]
    rw [s1] at HSd
    clear HFi HRo c1 s1 hc
    go_enter Try.func53, Try.ntmps53
    go_wp2_with fail
    refine calls_named (fun W0 hW => ?_)
    have F0 : Fr [] w W0 := Fr.eqv hW (by with_reducible repeat (first | exact Fr.refl _ _ | assumption | apply Fr.drew | apply Fr.drewN | apply Fr.alloc | (apply Fr.step; assumption; (intro _ h; (first | exact h | (focus (simp_all; done))))) | (apply Fr.setIn; (first | exact List.mem_cons_self | exact List.mem_cons_of_mem _ List.mem_cons_self | exact List.mem_cons_of_mem _ (List.mem_cons_of_mem _ List.mem_cons_self) | exact List.mem_cons_of_mem _ (List.mem_cons_of_mem _ (List.mem_cons_of_mem _ List.mem_cons_self)))) | (apply Fr.setNew; (first | omega | (simp; omega)))))
    clear hW
    refine (HSd.out _).mono ?_
    rintro e w1 ⟨rfl, rfl⟩
    go_wp2_with fail
    go_ret
    exact ⟨rfl, F0⟩
/-- What a call makes of the document's book. -/
def MakesR (w : World) (r : Nat) (T : List Nat) (N K : Nat) (L : List Ord) (w' : World) : Prop := Fr [r] w w' ∧ ∃ T', RefB w' r T' N K L ∧ ∀ x ∈ T', x ∈ T ∨ w.heap.size ≤ x
theorem refAdd_any (w : World) (r N K : Nat) (T : List Nat) (L : List Ord) (h : RefB w r T N K L) (hl : L.length ≤ 10000) (o : Ord) :
    Calls Try.prog 53 #[.pointer (some ⟨r, 0, none⟩), .agg o.a] w fun e w' => e = .returned (.int .i64 (addF N K L o)) ∧ MakesR w r T N K (addL N K L o) w' := by
  unfold addL
  by_cases hc : addF N K L o = 0
  · rw [if_pos hc, hc]
    exact (refAdd_ok w r N K T L h hl o hc).mono fun e w' ⟨h1, h2, h3⟩ => ⟨h1, h2, h3⟩
  · rw [if_neg hc]
    exact (refAdd_bad w r N K T L h hl o hc).mono fun e w' ⟨h1, h2⟩ => ⟨h1, h2.mono (by simp), T, h.fr h2 (by simp), fun x hx => .inl hx⟩

/-- A book of the first k orders of a row: what is not right is left out. -/
def bkL (F : Nat → Nat → Int) : Nat → List Ord
  | 0 => []
  | k + 1 => addL 60 60 (bkL F k) (rowO F k)
theorem addL_len {N K : Nat} {L : List Ord} {o : Ord} : (addL N K L o).length ≤ L.length + 1 := by unfold addL; split <;> simp
theorem bkL_len (F : Nat → Nat → Int) : ∀ k, (bkL F k).length ≤ k
  | 0 => by simp [bkL]
  | k + 1 => by rw [bkL]; have := bkL_len F k; have := addL_len (N := 60) (K := 60) (L := bkL F k) (o := rowO F k); omega
/-- A book, as the program's and the document's, all new since w. -/
structure TwoBooks (w w' : World) (b r N K : Nat) (D T : List Nat) (L : List Ord) : Prop where
  fr : Fr [] w w'
  b : BookI w' b D N K L
  r : RefB w' r T N K L
  nb : ∀ x ∈ D, w.heap.size ≤ x
  nr : ∀ x ∈ T, w.heap.size ≤ x
  ne : ∀ x ∈ D, x ∉ T
theorem RefB.mem {w : World} {r N K : Nat} {T : List Nat} {L : List Ord} (h : RefB w r T N K L) : r ∈ T := by
  obtain ⟨v, B, R, rfl⟩ := h; simp
theorem TwoBooks.keep {w w' W : World} {b r N K : Nat} {D T : List Nat} {L : List Ord} (h : TwoBooks w w' b r N K D T L) (hf : Fr [] w' W) : TwoBooks w W b r N K D T L :=
  ⟨h.fr.trans hf, h.b.fr hf (by simp), h.r.fr hf (by simp), h.nb, h.nr, h.ne⟩

set_option maxHeartbeats 2000000 in
theorem books_any (w : World) (A0 : Option Addr) (n0 c0 : Nat) (F0 : Nat → Nat → Int) (w0 : IntRow w A0 n0 7 F0) (hn : n0 ≤ 60) :
    Calls Try.prog 13 #[.slice A0 n0 c0] w fun e w' => ∃ b r D T, e = .returned (.tuple #[.pointer (some ⟨b, 0, none⟩), .pointer (some ⟨r, 0, none⟩)]) ∧ TwoBooks w w' b r 60 60 D T (bkL F0 n0) := by
  have HR := Lib.hid w0
  clear w0
  go_enter Try.func13, Try.ntmps13
  go_wp2_with fail
  refine (newBook_new _ 60 60 (by omega) (by omega) (by omega) (by omega)).mono ?_
  rintro e w1 ⟨b, rfl, F1, D, hB, hD⟩
  go_wp2_with fail
  refine (refNew w1 60 60 (by omega) (by omega) (by omega) (by omega)).mono ?_
  rintro e w2 ⟨rfl, F2, hRf⟩
  have T2 : TwoBooks w w2 b w1.heap.size 60 60 D [w1.heap.size] [] := ⟨F1.trans F2, hB.fr F2 (by simp), hRf, hD, fun x hx => by rw [List.mem_singleton.1 hx]; exact F1.size, fun x hx hm => by have := hB.lts' x hx; have := List.mem_singleton.1 hm; omega⟩
  generalize w1.heap.size = r at T2
  clear F1 F2 hB hRf hD
  go_wp2_with fail
  go_loopw [8] (fun s8 wr => ∃ (k : Nat) (D T : List Nat), k ≤ n0 ∧ s8 = .int .i64 k ∧ TwoBooks w wr b r 60 60 D T (bkL F0 k)) (fun s8 _ => n0 - (intOf s8).toNat)
  case atStart => exact ⟨0, _, _, by omega, rfl, T2⟩
  case round =>
    obtain ⟨k, D, T, hk, rfl, T3⟩ := hrel
    clear T2
    by_cases hlt : k < n0
    · have i0 : (0 : Int) ≤ (k : Int) := by omega
      have i1 : (k : Int) < (n0 : Int) := by omega
      obtain ⟨ab, ao, rfl, hab, hcell⟩ := HR.out.2 (by omega)
      have H7 : Hid (∀ w', Fr [] w w' → _) := Lib.hid (fun w' hf => row_seven (w' := w') hcell hlt hab hf)
      clear hcell
      obtain ⟨r0, r1, r2, r3, r4, r5, r6⟩ := H7.out _ T3.fr
      go_wp2_with fail
      refine (bookAdd_any wr b D 60 60 _ T3.b (rowO F0 k)).mono ?_
      rintro e w4 ⟨rfl, F4, D', hB4, hD4⟩
      have Fw4 : Fr [] w w4 := fr_newD T3.nb T3.fr F4
      have hR4 := T3.r.fr F4 (fun x hx hm => T3.ne x hm hx)
      clear r0 r1 r2 r3 r4 r5 r6
      obtain ⟨r0, r1, r2, r3, r4, r5, r6⟩ := H7.out _ Fw4
      go_wp2_with fail
      refine (refAdd_any w4 r 60 60 T _ hR4 (by have := bkL_len F0 k; omega) (rowO F0 k)).mono ?_
      rintro e w5 ⟨rfl, F5, T', hR5, hT5⟩
      have hrT := T3.r.mem
      have hlT := T3.r.lts
      have hrD : ∀ x ∈ D', x ≠ r := fun x hx e => by
        rcases hD4 x hx with h | h
        · exact T3.ne x h (e ▸ hrT)
        · have := hlT r hrT; omega
      have hB5 := hB4.fr F5 (fun x hx hm => hrD x hx (List.mem_singleton.1 hm))
      have T5 : TwoBooks w w5 b r 60 60 D' T' (bkL F0 (k + 1)) := by
        refine ⟨fr_newD (D := [r]) (fun x hx => by rw [List.mem_singleton.1 hx]; exact T3.nr r hrT) Fw4 F5, hB5, hR5, fun x hx => ?_, fun x hx => ?_, fun x hx hm => ?_⟩
        · rcases hD4 x hx with h | h
          · exact T3.nb x h
          · have := T3.fr.size; omega
        · rcases hT5 x hx with h | h
          · exact T3.nr x h
          · have := Fw4.size; omega
        · rcases hT5 x hm with h | h
          · rcases hD4 x hx with h2 | h2
            · exact T3.ne x h2 h
            · have := hlT x h; omega
          · have := hB4.lts' x hx; omega
      clear F4 F5 hB4 hB5 hR4 hR5 r0 r1 r2 r3 r4 r5 r6
      go_wp2_with fail
      go_roundw
      case rel => exact ⟨k + 1, _, _, by omega, by simp, T5⟩
      case measure => simp [intOf]; omega
    · obtain rfl : k = n0 := by omega
      go_wp2_with fail
      go_ret2
      exact ⟨b, r, D, T, rfl, T3⟩
end Go.Proofs.Ytkimldeagndgjaa
