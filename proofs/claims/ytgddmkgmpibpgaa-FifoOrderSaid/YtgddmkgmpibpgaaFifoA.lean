/- The queues' inner functions, walked. -/
import Derived.Test.YtgddmkgmpibpgaaProg
import Derived.Test.YtgddmkgmpibpgaaMem
namespace Go.Proofs.Ytgddmkgmpibpgaa
set_option linter.unusedVariables false
set_option linter.unusedSimpArgs false
open Go.RowKit

structure Link where
  ahead : Int
  behind : Int
  queue : Int
deriving DecidableEq

structure Ends where
  first : Int
  last : Int
  n : Int
deriving DecidableEq

def linkC (f : Nat → Link) (i j : Nat) : Value := .int .i64 (match j with | 0 => (f i).ahead | 1 => (f i).behind | _ => (f i).queue)
def endsC (f : Nat → Ends) (i j : Nat) : Value := .int .i64 (match j with | 0 => (f i).first | 1 => (f i).last | _ => (f i).n)

abbrev BlkQ (w : World) (bq bn be N K : Nat) : Prop := Blk w bq 104 #[.slice (some ⟨bn, 0, none⟩) N N, .slice (some ⟨be, 0, none⟩) K K]

/-- Queues in memory: bq the struct's block, bn the nodes' row, be the ends' row. -/
structure RepQ (w : World) (bq bn be N K : Nat) (nd : Nat → Link) (en : Nat → Ends) : Prop where
  q : BlkQ w bq bn be N K
  n : Blk w bn 106 (grid N 3 (linkC nd))
  e : Blk w be 109 (grid K 3 (endsC en))
  N1 : 1 ≤ N
  N2 : N ≤ 500
  K1 : 1 ≤ K
  K2 : K ≤ 400

theorem RepQ.ne1 {w : World} {bq bn be N K : Nat} {nd : Nat → Link} {en : Nat → Ends} (h : RepQ w bq bn be N K nd en) : bq ≠ bn := h.q.ne h.n (by decide)
theorem RepQ.ne2 {w : World} {bq bn be N K : Nat} {nd : Nat → Link} {en : Nat → Ends} (h : RepQ w bq bn be N K nd en) : bq ≠ be := h.q.ne h.e (by decide)
theorem RepQ.ne3 {w : World} {bq bn be N K : Nat} {nd : Nat → Link} {en : Nat → Ends} (h : RepQ w bq bn be N K nd en) : bn ≠ be := h.n.ne h.e (by decide)

theorem loose_any (w : World) : Calls Try.prog 66 #[] w fun e w' => e = .returned (.agg #[.int .i64 (-1), .int .i64 (-1), .int .i64 (-1)]) ∧ w.alloc (.cells #[.int .i64 (-1), .int .i64 (-1), .int .i64 (-1)] 106) = w' := by
  go_enter Try.func66, Try.ntmps66
  go_wp2
  exact bodyPost_ret (v := .agg #[.int .i64 (-1), .int .i64 (-1), .int .i64 (-1)]) (by simp [results, Try.results66, go_sem]) rfl ⟨rfl, rfl⟩

theorem empty_any (w : World) : Calls Try.prog 67 #[] w fun e w' => e = .returned (.agg #[.int .i64 (-1), .int .i64 (-1), .int .i64 0]) ∧ w.alloc (.cells #[.int .i64 (-1), .int .i64 (-1), .int .i64 0] 109) = w' := by
  go_enter Try.func67, Try.ntmps67
  go_wp2
  exact bodyPost_ret (v := .agg #[.int .i64 (-1), .int .i64 (-1), .int .i64 0]) (by simp [results, Try.results67, go_sem]) rfl ⟨rfl, rfl⟩

theorem node_in (w : World) (bq bn be N K : Nat) (hq : BlkQ w bq bn be N K) (b1 : N ≤ 500) (n : Nat) (hn : n < N) :
    Calls Try.prog 74 #[.pointer (some ⟨bq, 0, none⟩), .int .i64 n] w fun e w' => e = .returned (.pointer (some ⟨bn, n * 3, none⟩)) ∧ w = w' := by
  have h1 := hq.cell 0
  have h2 := hq.cell 1
  go_enter Try.func74, Try.ntmps74
  go_wp2
  go_ret
  exact ⟨rfl, rfl⟩

theorem node_out (w : World) (bq bn be N K : Nat) (hq : BlkQ w bq bn be N K) (b1 : N ≤ 500) (n : Int) (hn : n < 0 ∨ N ≤ n) :
    Calls Try.prog 74 #[.pointer (some ⟨bq, 0, none⟩), .int .i64 n] w fun e w' => e = .returned (.pointer none) ∧ w = w' := by
  have h1 := hq.cell 0
  have h2 := hq.cell 1
  rcases hn with hn | hn
  all_goals
    go_enter Try.func74, Try.ntmps74
    go_wp2
    go_ret
    exact ⟨rfl, rfl⟩

theorem node_nil (w : World) (n : Int) :
    Calls Try.prog 74 #[.pointer none, .int .i64 n] w fun e w' => e = .returned (.pointer none) ∧ w = w' := by
  go_enter Try.func74, Try.ntmps74
  go_wp2
  go_ret
  exact ⟨rfl, rfl⟩

theorem queue_in (w : World) (bq bn be N K : Nat) (hq : BlkQ w bq bn be N K) (b1 : K ≤ 400) (n : Nat) (hn : n < K) :
    Calls Try.prog 73 #[.pointer (some ⟨bq, 0, none⟩), .int .i64 n] w fun e w' => e = .returned (.pointer (some ⟨be, n * 3, none⟩)) ∧ w = w' := by
  have h1 := hq.cell 0
  have h2 := hq.cell 1
  go_enter Try.func73, Try.ntmps73
  go_wp2
  go_ret
  exact ⟨rfl, rfl⟩

theorem queue_out (w : World) (bq bn be N K : Nat) (hq : BlkQ w bq bn be N K) (b1 : K ≤ 400) (n : Int) (hn : n < 0 ∨ K ≤ n) :
    Calls Try.prog 73 #[.pointer (some ⟨bq, 0, none⟩), .int .i64 n] w fun e w' => e = .returned (.pointer none) ∧ w = w' := by
  have h1 := hq.cell 0
  have h2 := hq.cell 1
  rcases hn with hn | hn
  all_goals
    go_enter Try.func73, Try.ntmps73
    go_wp2
    go_ret
    exact ⟨rfl, rfl⟩

theorem queue_nil (w : World) (n : Int) :
    Calls Try.prog 73 #[.pointer none, .int .i64 n] w fun e w' => e = .returned (.pointer none) ∧ w = w' := by
  go_enter Try.func73, Try.ntmps73
  go_wp2
  go_ret
  exact ⟨rfl, rfl⟩

theorem len_in (w : World) (bq bn be N K : Nat) (nd : Nat → Link) (en : Nat → Ends) (h : RepQ w bq bn be N K nd en) (n : Nat) (hn : n < K) :
    Calls Try.prog 28 #[.pointer (some ⟨bq, 0, none⟩), .int .i64 n] w fun e w' => e = .returned (.int .i64 (en n).n) ∧ w = w' := by
  have h1 := h.e.at hn (show 2 < 3 by omega)
  go_enter Try.func28, Try.ntmps28
  go_wp2_with fail
  refine (queue_in w bq bn be N K h.q h.K2 n hn).mono ?_
  rintro e w' ⟨rfl, rfl⟩
  go_wp2
  go_ret
  exact ⟨rfl, rfl⟩
end Go.Proofs.Ytgddmkgmpibpgaa
