/- The arena of slots: words. -/
import Derived.Test.YtkimldeagndgjaaProg
import Derived.Test.YtkimldeagndgjaaMem
import Derived.Outline
namespace Go.Proofs.Ytkimldeagndgjaa
set_option linter.unusedVariables false
set_option linter.unusedSimpArgs false
open Go.RowKit

/-- The arena's cells: 500 slots of 8 cells, its size, the first free slot, how many are taken. -/
def arenaA (f : Nat → Nat → Value) (s fr u : Int) : Array Value := grid 500 8 f ++ #[.int .i64 s, .int .i64 fr, .int .i64 u]
theorem arenaA_size (f : Nat → Nat → Value) (s fr u : Int) : (arenaA f s fr u).size = 4003 := by simp [arenaA, grid_size]
theorem arenaA_slot {f : Nat → Nat → Value} {s fr u : Int} {i j : Nat} (hi : i < 500) (hj : j < 8) : (arenaA f s fr u)[i * 8 + j]? = some (f i j) := by
  unfold arenaA
  rw [Array.getElem?_append_left (by rw [grid_size]; omega), grid_get hi hj]
theorem arenaA_tail {f : Nat → Nat → Value} {s fr u : Int} {j : Nat} : (arenaA f s fr u)[4000 + j]? = (#[Value.int .i64 s, .int .i64 fr, .int .i64 u] : Array Value)[j]? := by
  unfold arenaA
  rw [Array.getElem?_append_right (by rw [grid_size]; omega), grid_size, show 4000 + j - 500 * 8 = j by omega]
theorem arenaA_set {f : Nat → Nat → Value} {s fr u : Int} {i j : Nat} (hi : i < 500) (hj : j < 8) (v : Value) : (arenaA f s fr u).setIfInBounds (i * 8 + j) v = arenaA (fun i' j' => if i' = i ∧ j' = j then v else f i' j') s fr u := by
  unfold arenaA
  rw [← grid_set hj, Array.setIfInBounds_append_left (by rw [grid_size]; omega)]
theorem arenaA_setT {f : Nat → Nat → Value} {s fr u : Int} {j : Nat} (v : Value) : (arenaA f s fr u).setIfInBounds (4000 + j) v = grid 500 8 f ++ (#[Value.int .i64 s, .int .i64 fr, .int .i64 u] : Array Value).setIfInBounds j v := by
  unfold arenaA
  rw [Array.setIfInBounds_append_right (by rw [grid_size]; omega), grid_size, show 4000 + j - 500 * 8 = j by omega]
def isZ : Value → Bool
  | .int .i64 n => n == 0
  | _ => false
theorem isZ_eq {v : Value} (h : isZ v = true) : v = .int .i64 0 := by
  unfold isZ at h
  split at h
  · simp at h; rw [h]
  · cases h
set_option maxRecDepth 1000000 in
theorem zero_all : Try.zeroCells195.toList.all isZ = true := by kernel_rfl
theorem zero_arena : Try.zeroCells195 = arenaA (fun _ _ => .int .i64 0) 0 0 0 := by
  have h := zero_all
  have hs := Try.zeroCells195_size
  generalize Try.zeroCells195 = cs at h hs
  apply Array.ext_getElem?
  intro i
  rcases Nat.lt_or_ge i cs.size with hi | hi
  · have e1 : cs[i]? = some (.int .i64 0) := by
      rw [Array.getElem?_eq_getElem hi, isZ_eq (List.all_eq_true.1 h _ (Array.getElem_mem_toList hi))]
    rw [e1]
    rw [hs] at hi
    rcases Nat.lt_or_ge i 4000 with hl | hl
    · have := @arenaA_slot (fun _ _ => .int .i64 0) 0 0 0 (i / 8) (i % 8) (by omega) (by omega)
      rw [show i / 8 * 8 + i % 8 = i by omega] at this
      exact this.symm
    · obtain ⟨j, hj⟩ : ∃ j, i = 4000 + j := ⟨i - 4000, by omega⟩
      subst hj
      rw [arenaA_tail]
      rcases (show j = 0 ∨ j = 1 ∨ j = 2 by omega) with rfl | rfl | rfl <;> rfl
  · rw [Array.getElem?_eq_none hi, Array.getElem?_eq_none (by rw [arenaA_size, ← hs]; exact hi)]
end Go.Proofs.Ytkimldeagndgjaa
