/- The ladder: slices.Delete of one level. -/
import Derived.Test.YtkimldeagndgjaaLadG
import Derived.Test.YtkimldeagndgjaaClear
namespace Go.Proofs.Ytkimldeagndgjaa
set_option linter.unusedVariables false
set_option linter.unusedSimpArgs false
open Go.RowKit

def delF (f : Nat → Lvl) (i : Nat) : Nat → Lvl := fun j => if j < i then f j else f (j + 1)

set_option maxHeartbeats 1000000 in
theorem delete_any (w : World) (lb n cap i : Nat) (f : Nat → Lvl) (hr : RowL w (.slice (some ⟨lb, 0, none⟩) n cap) n f) (hi : i < n) (hn : n ≤ 1000) :
    Calls Try.prog 144 #[.slice (some ⟨lb, 0, none⟩) n cap, .int .i64 i, .int .i64 ((i : Int) + 1)] w fun e w' => e = .returned (.slice (some ⟨lb, 0, none⟩) (n - 1) cap) ∧ RowL w' (.slice (some ⟨lb, 0, none⟩) (n - 1) cap) (n - 1) (delF f i) ∧ Fr [lb] w w' := by
  obtain ⟨cur, hnc, B, hsz, hcur⟩ : ∃ cur, n ≤ cap ∧ Blk w lb 159 cur ∧ cur.size = cap * 4 ∧ ∀ i j, i < n → j < 4 → cur[i * 4 + j]? = some (lvC f i j) := by
    rcases hr with ⟨e, _⟩ | ⟨lb', cap', cur, e, h1, B, h2, h3⟩
    · cases e
    · cases e; exact ⟨cur, h1, B, h2, h3⟩
  clear hr
  have HC := Lib.hid hcur
  have HZ := Lib.hid hsz
  have HB := Lib.hid B
  obtain ⟨ii, hii, hz0, hz1, hz2⟩ := info_parts info_lvl
  have HII := Lib.hid (And.intro hii hz1)
  have HZV := Lib.hid (show ∀ w, (zeroValue 159).run Try.prog w = .ok (.agg #[.int .i64 0, .int .i64 0, .int .i64 0, .int .i64 0]) w from fun w => by kernel_rfl)
  have i0 : (0 : Int) ≤ (i : Int) := by omega
  have i1 : (i : Int) + 1 ≤ (n : Int) := by omega
  have i2 : (i : Int) < (n : Int) := by omega
  have n0 : (n : Int) ≤ 1000 := by omega
  have c1 : i ≤ cap := by omega
  have c2 : i + 1 ≤ cap := by omega
  have c3 : ¬ cap = i := by omega
  have ine : ((i : Int) == (i : Int) + 1) = false := by simp; omega
  clear hii hz0 hz1 hz2 B hsz hcur
  have i3 : (0 : Int) ≤ (i : Int) + 1 := by omega
  have hcl : ((cur.toList.drop ((i + 1) * 4)).take ((n - (i + 1)) * 4)).length = (n - (i + 1)) * 4 := by rw [List.length_take, List.length_drop, Array.length_toList, HZ.out]; omega
  obtain ⟨ad, had, hsrc⟩ : ∃ ad : Addr, (if cap = i + 1 then some (⟨lb, 0, none⟩ : Addr) else some ⟨lb, (i + 1) * 4, none⟩) = some ad ∧ ∀ j u, ((cur.toList.drop ((i + 1) * 4)).take ((n - (i + 1)) * 4))[j]? = some u → w.drew.cell? (ad.add j) = some u := by
    by_cases c : cap = i + 1
    · refine ⟨⟨lb, 0, none⟩, by rw [if_pos c], fun j u hj => ?_⟩
      have h1 := (List.getElem?_eq_some_iff.1 hj).1
      rw [hcl] at h1
      omega
    · exact ⟨_, by rw [if_neg c], seg_cells HB.out.drew⟩
  have HAD := Lib.hid had
  have HSRC := Lib.hid hsrc
  have HCL := Lib.hid hcl
  clear had hsrc hcl
  go_enter Try.func144, Try.ntmps144
  go_wp2_with fail
  refine u_region (S := fun _ => True) 7 (by kernel_rfl) (by kernel_rfl) (by kernel_rfl) (by kernel_rfl) (by kernel_rfl) trivial ?_
  (refine u_take 0 (v := ?_) rfl rfl (by kernel_rfl) (by kernel_rfl) (fun _ _ _ h => h) (Or.inl ⟨by rfl, ?_⟩) ?_; rotate_left; (focus (intro wz hSw; (try dsimp only at hSw); go_simp; (try with_reducible rfl))); (try simp only [Act.put, List.getElem_toArray, List.getElem_cons_succ, List.getElem_cons_zero, List.setIfInBounds_toArray, List.set_cons_zero, List.set_cons_succ]))
  (refine u_take 1 (v := ?_) rfl rfl (by kernel_rfl) (by kernel_rfl) (fun _ _ _ h => h) (Or.inl ⟨by rfl, ?_⟩) ?_; rotate_left; (focus (intro wz hSw; (try dsimp only at hSw); go_simp; (try with_reducible rfl))); (try simp only [Act.put, List.getElem_toArray, List.getElem_cons_succ, List.getElem_cons_zero, List.setIfInBounds_toArray, List.set_cons_zero, List.set_cons_succ]))
  (refine u_take 2 (v := ?_) rfl rfl (by kernel_rfl) (by kernel_rfl) (fun _ _ _ h => h) (Or.inl ⟨by rfl, ?_⟩) ?_; rotate_left; (focus (intro wz hSw; (try dsimp only at hSw); go_simp; (try with_reducible rfl))); (try simp only [Act.put, List.getElem_toArray, List.getElem_cons_succ, List.getElem_cons_zero, List.setIfInBounds_toArray, List.set_cons_zero, List.set_cons_succ]))
  (refine u_take 3 (v := ?_) rfl rfl (by kernel_rfl) (by kernel_rfl) (fun _ _ _ h => h) (Or.inl ⟨by rfl, ?_⟩) ?_; rotate_left; (focus (intro wz hSw; (try dsimp only at hSw); go_simp; (try with_reducible rfl))); (try simp only [Act.put, List.getElem_toArray, List.getElem_cons_succ, List.getElem_cons_zero, List.setIfInBounds_toArray, List.set_cons_zero, List.set_cons_succ]))
  (refine u_take 4 (v := ?_) rfl rfl (by kernel_rfl) (by kernel_rfl) (fun _ _ _ h => h) (Or.inl ⟨by rfl, ?_⟩) ?_; rotate_left; (focus (intro wz hSw; (try dsimp only at hSw); go_simp; (try with_reducible rfl))); (try simp only [Act.put, List.getElem_toArray, List.getElem_cons_succ, List.getElem_cons_zero, List.setIfInBounds_toArray, List.set_cons_zero, List.set_cons_succ]))
  (refine u_take 5 (v := .slice (some ad) (n - (i + 1)) (cap - (i + 1))) rfl rfl (by kernel_rfl) (by kernel_rfl) (fun _ _ _ h => h) (Or.inl ⟨by rfl, ?_⟩) ?_; (focus (intro wz hSw; go_simp; (try rw [HAD.out]))); (try simp only [Act.put, List.getElem_toArray, List.getElem_cons_succ, List.getElem_cons_zero, List.setIfInBounds_toArray, List.set_cons_zero, List.set_cons_succ]))
  refine u_one 6 (by kernel_rfl) rfl rfl (fun Kq hKq => ?_)
  refine step_appRoom _ rfl (.tmp 22) (.tmp 25) 200 159 rfl ii Try.underlying200 HII.out.1 lb i cap ad (n - (i + 1)) (cap - (i + 1)) rfl rfl cur HB.out.drew _ (by rw [HCL.out, HII.out.2]) HSRC.out ?h1 (by omega) ?hf ?_
  case h1 => exact seg_one (i := i + 1) HC.out (by rw [HZ.out]; omega)
  case hf => (rw [HCL.out, HII.out.2, HZ.out]; omega)
  intro w1 B1 F1
  rw [HII.out.2] at B1
  have hX : (cur.toList.take (i * 4) ++ (cur.toList.drop ((i + 1) * 4)).take ((n - (i + 1)) * 4) ++ cur.toList.drop (i * 4 + ((cur.toList.drop ((i + 1) * 4)).take ((n - (i + 1)) * 4)).length)).toArray.size = cap * 4 := by
    rw [HCL.out]
    simp only [List.size_toArray, List.length_append, List.length_take, List.length_drop, Array.length_toList, HZ.out]
    omega
  have HXX := Lib.hid hX
  clear hX
  refine hKq _ _ trivial ?_
  clear hKq Kq
  (try simp only [Act.put, List.getElem_toArray, List.getElem_cons_succ, List.getElem_cons_zero, List.setIfInBounds_toArray, List.set_cons_zero, List.set_cons_succ])
  rw [show i + (n - (i + 1)) = n - 1 by omega]
  refine u_last (by kernel_rfl) rfl (by kernel_rfl) ?_
  have d1 : (n - 1 : Nat) ≤ n := by omega
  have d2 : (((n - 1 : Nat) : Nat) : Int) ≤ (n : Int) := by omega
  have d3 : n ≤ cap := hnc
  have d4 : ¬ cap = n - 1 := by omega
  go_wp2_with (first
    | (refine wpList_clearS _ rfl (.tmp 31) 200 rfl 159 _ 4 Try.underlying200 HZV.out rfl ?c1 lb ((n - 1) * 4) 1 (cap - (n - 1)) ?c2 (by omega) _ B1 ?c3 ?_
       case c1 => simp [Value.cells, Value.oneCell']
       case c2 => (show Value.slice (some ⟨lb, (n - 1) * 4, none⟩) (n - (n - 1)) (cap - (n - 1)) = _; rw [show n - (n - 1) = 1 by omega])
       case c3 => (rw [HXX.out]; omega)
       intro w2 new B2 hs2 ho2 F2))
  go_ret
  refine ⟨rfl, .inr ⟨lb, cap, new, rfl, by omega, B2, hs2.trans HXX.out, fun a b ha hb => ?_⟩, (Fr.drew (Fr.refl [lb] w)).trans (F1.trans F2)⟩
  rw [ho2 _ (by omega), List.getElem?_toArray, splice_get _ _ _ _ (by rw [HCL.out, Array.length_toList, HZ.out]; omega), HCL.out]
  by_cases c : a < i
  · rw [if_neg (by omega), Array.getElem?_toList, HC.out a b (by omega) hb]
    simp [lvC, delF, c]
  · rw [if_pos (by omega), List.getElem?_take_of_lt (by omega), List.getElem?_drop, show (i + 1) * 4 + (a * 4 + b - i * 4) = (a + 1) * 4 + b by omega, Array.getElem?_toList, HC.out (a + 1) b (by omega) hb]
    simp [lvC, delF, c]
end Go.Proofs.Ytkimldeagndgjaa
