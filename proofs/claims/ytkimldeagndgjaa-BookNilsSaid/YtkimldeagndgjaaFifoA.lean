/- The queues' inner functions, walked. -/
import Derived.Test.YtkimldeagndgjaaProg
import Derived.Test.YtkimldeagndgjaaMem
namespace Go.Proofs.Ytkimldeagndgjaa
set_option linter.unusedVariables false
set_option linter.unusedSimpArgs false
open Go.RowKit

structure Link where
  ahead : Int
  behind : Int
  queue : Int
deriving DecidableEq

structure Ends where
  first : Int
  last : Int
  n : Int
deriving DecidableEq

def linkC (f : Nat → Link) (i j : Nat) : Value := .int .i64 (match j with | 0 => (f i).ahead | 1 => (f i).behind | _ => (f i).queue)
def endsC (f : Nat → Ends) (i j : Nat) : Value := .int .i64 (match j with | 0 => (f i).first | 1 => (f i).last | _ => (f i).n)

abbrev BlkQ (w : World) (bq bn be N K : Nat) : Prop := Blk w bq 208 #[.slice (some ⟨bn, 0, none⟩) N N, .slice (some ⟨be, 0, none⟩) K K]

/-- Queues in memory: bq the struct's block, bn the nodes' row, be the ends' row. -/
structure RepQ (w : World) (bq bn be N K : Nat) (nd : Nat → Link) (en : Nat → Ends) : Prop where
  q : BlkQ w bq bn be N K
  n : Blk w bn 210 (grid N 3 (linkC nd))
  e : Blk w be 213 (grid K 3 (endsC en))
  N1 : 1 ≤ N
  N2 : N ≤ 500
  K1 : 1 ≤ K
  K2 : K ≤ 400

theorem RepQ.ne1 {w : World} {bq bn be N K : Nat} {nd : Nat → Link} {en : Nat → Ends} (h : RepQ w bq bn be N K nd en) : bq ≠ bn := h.q.ne h.n (by decide)
theorem RepQ.ne2 {w : World} {bq bn be N K : Nat} {nd : Nat → Link} {en : Nat → Ends} (h : RepQ w bq bn be N K nd en) : bq ≠ be := h.q.ne h.e (by decide)
theorem RepQ.ne3 {w : World} {bq bn be N K : Nat} {nd : Nat → Link} {en : Nat → Ends} (h : RepQ w bq bn be N K nd en) : bn ≠ be := h.n.ne h.e (by decide)

theorem loose_any (w : World) : Calls Try.prog 130 #[] w fun e w' => e = .returned (.agg #[.int .i64 (-1), .int .i64 (-1), .int .i64 (-1)]) ∧ w.alloc (.cells #[.int .i64 (-1), .int .i64 (-1), .int .i64 (-1)] 210) = w' := by
  go_enter Try.func130, Try.ntmps130
  go_wp2
  exact bodyPost_ret (v := .agg #[.int .i64 (-1), .int .i64 (-1), .int .i64 (-1)]) (by simp [results, Try.results130, go_sem]) rfl ⟨rfl, rfl⟩

theorem empty_any (w : World) : Calls Try.prog 131 #[] w fun e w' => e = .returned (.agg #[.int .i64 (-1), .int .i64 (-1), .int .i64 0]) ∧ w.alloc (.cells #[.int .i64 (-1), .int .i64 (-1), .int .i64 0] 213) = w' := by
  go_enter Try.func131, Try.ntmps131
  go_wp2
  exact bodyPost_ret (v := .agg #[.int .i64 (-1), .int .i64 (-1), .int .i64 0]) (by simp [results, Try.results131, go_sem]) rfl ⟨rfl, rfl⟩

theorem node_in (w : World) (bq bn be N K : Nat) (hq : BlkQ w bq bn be N K) (b1 : N ≤ 500) (n : Nat) (hn : n < N) :
    Calls Try.prog 136 #[.pointer (some ⟨bq, 0, none⟩), .int .i64 n] w fun e w' => e = .returned (.pointer (some ⟨bn, n * 3, none⟩)) ∧ w = w' := by
  have h1 := hq.cell 0
  have h2 := hq.cell 1
  go_enter Try.func136, Try.ntmps136
  go_wp2
  go_ret
  exact ⟨rfl, rfl⟩

theorem node_out (w : World) (bq bn be N K : Nat) (hq : BlkQ w bq bn be N K) (b1 : N ≤ 500) (n : Int) (hn : n < 0 ∨ N ≤ n) :
    Calls Try.prog 136 #[.pointer (some ⟨bq, 0, none⟩), .int .i64 n] w fun e w' => e = .returned (.pointer none) ∧ w = w' := by
  have h1 := hq.cell 0
  have h2 := hq.cell 1
  rcases hn with hn | hn
  all_goals
    go_enter Try.func136, Try.ntmps136
    go_wp2
    go_ret
    exact ⟨rfl, rfl⟩

theorem node_nil (w : World) (n : Int) :
    Calls Try.prog 136 #[.pointer none, .int .i64 n] w fun e w' => e = .returned (.pointer none) ∧ w = w' := by
  go_enter Try.func136, Try.ntmps136
  go_wp2
  go_ret
  exact ⟨rfl, rfl⟩

theorem queue_in (w : World) (bq bn be N K : Nat) (hq : BlkQ w bq bn be N K) (b1 : K ≤ 400) (n : Nat) (hn : n < K) :
    Calls Try.prog 135 #[.pointer (some ⟨bq, 0, none⟩), .int .i64 n] w fun e w' => e = .returned (.pointer (some ⟨be, n * 3, none⟩)) ∧ w = w' := by
  have h1 := hq.cell 0
  have h2 := hq.cell 1
  go_enter Try.func135, Try.ntmps135
  go_wp2
  go_ret
  exact ⟨rfl, rfl⟩

theorem queue_out (w : World) (bq bn be N K : Nat) (hq : BlkQ w bq bn be N K) (b1 : K ≤ 400) (n : Int) (hn : n < 0 ∨ K ≤ n) :
    Calls Try.prog 135 #[.pointer (some ⟨bq, 0, none⟩), .int .i64 n] w fun e w' => e = .returned (.pointer none) ∧ w = w' := by
  have h1 := hq.cell 0
  have h2 := hq.cell 1
  rcases hn with hn | hn
  all_goals
    go_enter Try.func135, Try.ntmps135
    go_wp2
    go_ret
    exact ⟨rfl, rfl⟩

theorem queue_nil (w : World) (n : Int) :
    Calls Try.prog 135 #[.pointer none, .int .i64 n] w fun e w' => e = .returned (.pointer none) ∧ w = w' := by
  go_enter Try.func135, Try.ntmps135
  go_wp2
  go_ret
  exact ⟨rfl, rfl⟩

end Go.Proofs.Ytkimldeagndgjaa
