/- A book's example, walked. -/
import Derived.Test.YtkimldeagndgjaaBookG
import Derived.Outline
namespace Go.Proofs.Ytkimldeagndgjaa
set_option linter.unusedVariables false
set_option linter.unusedSimpArgs false
open Go.RowKit

theorem fr_newD {w a c : World} {D : List Nat} (hD : ∀ x ∈ D, w.heap.size ≤ x) (h : Fr [] w a) (k : Fr D a c) : Fr [] w c :=
  ⟨k.os.trans h.os, k.tape.trans h.tape, k.output.trans h.output, Nat.le_trans h.size k.size, fun i hi _ => (k.block i (Nat.lt_of_lt_of_le hi h.size) (fun hm => by have := hD i hm; omega)).trans (h.block i hi (by simp))⟩
/-- A book that lies wholly in new blocks. -/
def NewBook (w0 w : World) (b N K : Nat) (L : List Ord) : Prop := Fr [] w0 w ∧ ∃ D, BookI w b D N K L ∧ ∀ x ∈ D, w0.heap.size ≤ x
theorem NewBook.fr {w0 w W : World} {b N K : Nat} {L : List Ord} (h : NewBook w0 w b N K L) (hf : Fr [] w W) : NewBook w0 W b N K L := by
  obtain ⟨F, D, hB, hD⟩ := h
  exact ⟨F.trans hf, D, hB.fr hf (by simp), hD⟩
theorem newBook_new (w : World) (N K : Nat) (h1 : 1 ≤ N) (h2 : N ≤ 500) (k1 : 1 ≤ K) (k2 : K ≤ 200) :
    Calls Try.prog 22 #[.int .i64 N, .int .i64 K] w fun e w' => ∃ b, e = .returned (.tuple #[.pointer (some ⟨b, 0, none⟩), .int .i64 0]) ∧ NewBook w w' b N K [] :=
  (bookNew_ok w N K h1 h2 k1 k2).mono fun _ _ ⟨b, D, h1, h2, h3, h4⟩ => ⟨b, h1, h2, D, h3, h4⟩
theorem newBook_add {w0 w : World} {b N K : Nat} {L : List Ord} (h : NewBook w0 w b N K L) (o : Ord) (ho : Good o) (hid : ∀ x ∈ L, x.id ≠ o.id) (hfit : FitsL o.sd o.pr L K) (hroom : L.length < N) :
    Calls Try.prog 23 #[.pointer (some ⟨b, 0, none⟩), .agg o.a] w fun e w' => e = .returned (.int .i64 0) ∧ NewBook w0 w' b N K (L ++ [o]) := by
  obtain ⟨F, D, hB, hD⟩ := h
  refine (bookAdd_ok w b D N K L hB o ho hid hfit hroom).mono ?_
  rintro e w' ⟨he, F', D', hB', hD'⟩
  have s := F.size
  exact ⟨he, fr_newD hD F F', D', hB', fun x hx => by rcases hD' x hx with h | h; exact hD x h; omega⟩

def ex1 : Ord := ⟨1, 0, 0, 10, 1, 0, 0⟩
def ex2 : Ord := ⟨2, 0, 0, 12, 1, 0, 0⟩
def ex3 : Ord := ⟨3, 0, 0, 12, 1, 0, 0⟩
theorem good1 : Good ex1 := ⟨.inl rfl, by decide, by decide⟩
theorem good2 : Good ex2 := ⟨.inl rfl, by decide, by decide⟩
theorem good3 : Good ex3 := ⟨.inl rfl, by decide, by decide⟩
theorem ex_of : OfL 0 [ex1, ex2, ex3] [ex2, ex3, ex1] := by
  refine ⟨by simp [ex1, ex2, ex3, keyI], fun p => ?_⟩
  by_cases c : (12 : Int) = p
  · subst c; simp [ex1, ex2, ex3]
  · by_cases d : (10 : Int) = p
    · subst d; simp [ex1, ex2, ex3]
    · simp [ex1, ex2, ex3, c, d]
theorem fits1 : FitsL ex1.sd ex1.pr [] 3 := .inr ⟨[], by simp, by simp, by simp⟩
theorem fits2 : FitsL ex2.sd ex2.pr [ex1] 3 := .inr ⟨[10], by simp, fun q => by simp [ex1, ex2, eq_comm], by simp⟩
theorem fits3 : FitsL ex3.sd ex3.pr [ex1, ex2] 3 := .inl ⟨ex2, by simp, rfl, rfl⟩

set_option maxHeartbeats 1000000 in
theorem bookAlive_any (w : World) : Calls Try.prog 28 #[] w fun e w' => e = .returned (.bool true) ∧ Fr [] w w' := by
  go_enter Try.func28, Try.ntmps28
  go_wp2_with fail
  refine (newBook_new w 5 3 (by omega) (by omega) (by omega) (by omega)).mono ?_
  rintro e w1 ⟨b, rfl, N1⟩
  go_wp2_with fail
  refine (newBook_add N1 ex1 good1 (by simp) fits1 (by simp)).mono ?_
  rintro e w2 ⟨rfl, N2⟩
  clear N1
  go_wp2_with fail
  refine (newBook_add N2 ex2 good2 (by simp [ex1, ex2]) fits2 (by simp)).mono ?_
  rintro e w3 ⟨rfl, N3⟩
  clear N2
  go_wp2_with fail
  refine (newBook_add N3 ex3 good3 (by simp [ex1, ex2, ex3]) fits3 (by simp)).mono ?_
  rintro e w4 ⟨rfl, N4⟩
  clear N3
  have N4 : NewBook w w4 b 5 3 [ex1, ex2, ex3] := N4
  go_wp2_with fail
  obtain ⟨F4, D, hB, hD⟩ := N4
  refine (bookFront w4 b D 5 3 _ hB 0 (.inl rfl) ex2 [ex3, ex1] ex_of).mono ?_
  rintro e w5 ⟨rfl, F5⟩
  have N5 := Lib.hid (NewBook.fr ⟨F4, D, hB, hD⟩ F5)
  clear F4 hB hD F5
  unfold ex2
  go_wp2_with fail
  have F6 : Fr [] w5 (w5.alloc (.cells ex2.a 43)) := (Fr.refl _ _).alloc _
  obtain ⟨F7, D, hB, hD⟩ := N5.out.fr F6
  refine (bookWorth _ b D 5 3 _ hB 0 (.inl rfl) [ex2, ex3, ex1] ex_of 11 (by unfold In63; omega)).mono ?_
  rintro e w7 ⟨rfl, F8⟩
  go_wp2_with fail
  go_ret
  exact ⟨rfl, F7.trans F8⟩
end Go.Proofs.Ytkimldeagndgjaa
