/- Words and contracts: FifoA FifoB FifoC FifoM FifoD FifoE. -/
import Derived.Test.YtkimldeagndgjaaProg
import Derived.Deep.RegionHeld3
import Derived.OwnWalk
import Derived.Deep.DeepCutAuto
import Derived.Test.YtkimldeagndgjaaG0
/- The queues' inner functions, walked. -/
namespace Go.Proofs.Ytkimldeagndgjaa
set_option linter.unusedVariables false
set_option linter.unusedSimpArgs false
open Go.RowKit

structure Link where
  ahead : Int
  behind : Int
  queue : Int
deriving DecidableEq

structure Ends where
  first : Int
  last : Int
  n : Int
deriving DecidableEq

def linkC (f : Nat → Link) (i j : Nat) : Value := .int .i64 (match j with | 0 => (f i).ahead | 1 => (f i).behind | _ => (f i).queue)
def endsC (f : Nat → Ends) (i j : Nat) : Value := .int .i64 (match j with | 0 => (f i).first | 1 => (f i).last | _ => (f i).n)

abbrev BlkQ (w : World) (bq bn be N K : Nat) : Prop := Blk w bq 208 #[.slice (some ⟨bn, 0, none⟩) N N, .slice (some ⟨be, 0, none⟩) K K]

/-- Queues in memory: bq the struct's block, bn the nodes' row, be the ends' row. -/
structure RepQ (w : World) (bq bn be N K : Nat) (nd : Nat → Link) (en : Nat → Ends) : Prop where
  q : BlkQ w bq bn be N K
  n : Blk w bn 210 (grid N 3 (linkC nd))
  e : Blk w be 213 (grid K 3 (endsC en))
  N1 : 1 ≤ N
  N2 : N ≤ 500
  K1 : 1 ≤ K
  K2 : K ≤ 400

theorem RepQ.ne1 {w : World} {bq bn be N K : Nat} {nd : Nat → Link} {en : Nat → Ends} (h : RepQ w bq bn be N K nd en) : bq ≠ bn := h.q.ne h.n (by decide)
theorem RepQ.ne2 {w : World} {bq bn be N K : Nat} {nd : Nat → Link} {en : Nat → Ends} (h : RepQ w bq bn be N K nd en) : bq ≠ be := h.q.ne h.e (by decide)
theorem RepQ.ne3 {w : World} {bq bn be N K : Nat} {nd : Nat → Link} {en : Nat → Ends} (h : RepQ w bq bn be N K nd en) : bn ≠ be := h.n.ne h.e (by decide)

theorem loose_any (w : World) : Calls Try.prog 130 #[] w fun e w' => e = .returned (.agg #[.int .i64 (-1), .int .i64 (-1), .int .i64 (-1)]) ∧ w.alloc (.cells #[.int .i64 (-1), .int .i64 (-1), .int .i64 (-1)] 210) = w' := by
  go_enter Try.func130, Try.ntmps130
  go_wp2
  exact bodyPost_ret (v := .agg #[.int .i64 (-1), .int .i64 (-1), .int .i64 (-1)]) (by simp [results, Try.results130, go_sem]) rfl ⟨rfl, rfl⟩

theorem empty_any (w : World) : Calls Try.prog 131 #[] w fun e w' => e = .returned (.agg #[.int .i64 (-1), .int .i64 (-1), .int .i64 0]) ∧ w.alloc (.cells #[.int .i64 (-1), .int .i64 (-1), .int .i64 0] 213) = w' := by
  go_enter Try.func131, Try.ntmps131
  go_wp2
  exact bodyPost_ret (v := .agg #[.int .i64 (-1), .int .i64 (-1), .int .i64 0]) (by simp [results, Try.results131, go_sem]) rfl ⟨rfl, rfl⟩

theorem node_in (w : World) (bq bn be N K : Nat) (hq : BlkQ w bq bn be N K) (b1 : N ≤ 500) (n : Nat) (hn : n < N) :
    Calls Try.prog 136 #[.pointer (some ⟨bq, 0, none⟩), .int .i64 n] w fun e w' => e = .returned (.pointer (some ⟨bn, n * 3, none⟩)) ∧ w = w' := by
  have h1 := hq.cell 0
  have h2 := hq.cell 1
  go_enter Try.func136, Try.ntmps136
  go_wp2
  go_ret
  exact ⟨rfl, rfl⟩

theorem node_out (w : World) (bq bn be N K : Nat) (hq : BlkQ w bq bn be N K) (b1 : N ≤ 500) (n : Int) (hn : n < 0 ∨ N ≤ n) :
    Calls Try.prog 136 #[.pointer (some ⟨bq, 0, none⟩), .int .i64 n] w fun e w' => e = .returned (.pointer none) ∧ w = w' := by
  have h1 := hq.cell 0
  have h2 := hq.cell 1
  rcases hn with hn | hn
  all_goals
    go_enter Try.func136, Try.ntmps136
    go_wp2
    go_ret
    exact ⟨rfl, rfl⟩

theorem node_nil (w : World) (n : Int) :
    Calls Try.prog 136 #[.pointer none, .int .i64 n] w fun e w' => e = .returned (.pointer none) ∧ w = w' := by
  go_enter Try.func136, Try.ntmps136
  go_wp2
  go_ret
  exact ⟨rfl, rfl⟩

theorem queue_in (w : World) (bq bn be N K : Nat) (hq : BlkQ w bq bn be N K) (b1 : K ≤ 400) (n : Nat) (hn : n < K) :
    Calls Try.prog 135 #[.pointer (some ⟨bq, 0, none⟩), .int .i64 n] w fun e w' => e = .returned (.pointer (some ⟨be, n * 3, none⟩)) ∧ w = w' := by
  have h1 := hq.cell 0
  have h2 := hq.cell 1
  go_enter Try.func135, Try.ntmps135
  go_wp2
  go_ret
  exact ⟨rfl, rfl⟩

theorem queue_out (w : World) (bq bn be N K : Nat) (hq : BlkQ w bq bn be N K) (b1 : K ≤ 400) (n : Int) (hn : n < 0 ∨ K ≤ n) :
    Calls Try.prog 135 #[.pointer (some ⟨bq, 0, none⟩), .int .i64 n] w fun e w' => e = .returned (.pointer none) ∧ w = w' := by
  have h1 := hq.cell 0
  have h2 := hq.cell 1
  rcases hn with hn | hn
  all_goals
    go_enter Try.func135, Try.ntmps135
    go_wp2
    go_ret
    exact ⟨rfl, rfl⟩

theorem queue_nil (w : World) (n : Int) :
    Calls Try.prog 135 #[.pointer none, .int .i64 n] w fun e w' => e = .returned (.pointer none) ∧ w = w' := by
  go_enter Try.func135, Try.ntmps135
  go_wp2
  go_ret
  exact ⟨rfl, rfl⟩

end Go.Proofs.Ytkimldeagndgjaa

/- The queues' methods, walked. -/
namespace Go.Proofs.Ytkimldeagndgjaa
set_option linter.unusedVariables false
set_option linter.unusedSimpArgs false
open Go.RowKit

def updL (f : Nat → Link) (k : Nat) (l : Link) : Nat → Link := fun j => if j = k then l else f j
def updE (f : Nat → Ends) (k : Nat) (l : Ends) : Nat → Ends := fun j => if j = k then l else f j

theorem push_ok1 (w : World) (bq bn be N K : Nat) (nd : Nat → Link) (en : Nat → Ends) (h : RepQ w bq bn be N K nd en) (i n : Nat) (hi : i < K) (hn : n < N)
    (hl : nd n = ⟨-1, -1, -1⟩) (he : (en i).last = -1) (hc : 0 ≤ (en i).n ∧ (en i).n ≤ 1000) :
    Calls Try.prog 88 #[.pointer (some ⟨bq, 0, none⟩), .int .i64 i, .int .i64 n] w fun e w' => e = .returned (.bool true) ∧ Fr [bn, be] w w' ∧ RepQ w' bq bn be N K (updL nd n ⟨-1, -1, i⟩) (updE en i ⟨n, n, (en i).n + 1⟩) := by
  have n1 := h.n.at0 hn (show 0 < 3 by omega)
  have n2 := h.n.at hn (show 1 < 3 by omega)
  have n3 := h.n.at hn (show 2 < 3 by omega)
  have e1 := h.e.at0 hi (show 0 < 3 by omega)
  have e2 := h.e.at hi (show 1 < 3 by omega)
  have e3 := h.e.at hi (show 2 < 3 by omega)
  simp only [linkC, hl] at n1 n2 n3
  simp only [endsC, he] at e1 e2 e3
  have f1 := h.n.frozen (n * 3)
  have f2 := h.n.frozen (n * 3 + 1)
  have f3 := h.n.frozen (n * 3 + 2)
  have g1 := h.e.frozen (i * 3)
  have g2 := h.e.frozen (i * 3 + 1)
  have g3 := h.e.frozen (i * 3 + 2)
  have d1 := h.ne1
  have d2 := h.ne2
  have d3 := h.ne3
  have l1 := h.n.lt
  have l2 := h.e.lt
  have HL := Lib.hid hl
  have HE := Lib.hid he
  clear hl he
  go_enter Try.func88, Try.ntmps88
  go_wp2_with fail
  refine (queue_in w bq bn be N K h.q h.K2 i hi).mono ?_
  rintro e w' ⟨rfl, rfl⟩
  go_wp2_with fail
  refine (node_in w bq bn be N K h.q h.N2 n hn).mono ?_
  rintro e w' ⟨rfl, rfl⟩
  go_wp2_with fail
  go_region_held3 (fun w' => w'.cell? ⟨bn, n * 3, none⟩ = some (.int .i64 (-1)) ∧ w'.cell? ⟨bn, n * 3 + 1, none⟩ = some (.int .i64 (-1)) ∧ w'.cell? ⟨bn, n * 3 + 2, none⟩ = some (.int .i64 (-1))) (go_keep)
    (first | (go_at_call 130; refine (loose_any _).mono ?_; rintro e w' ⟨rfl, rfl⟩))
  go_wp2_with fail
  refine (node_out _ bq bn be N K ?hq h.N2 (-1) (by omega)).mono ?_
  case hq => with_reducible repeat (first | exact Blk.new _ _ _ | (apply Blk.newAt rfl; (first | (simp; done) | (simp; omega))) | assumption | exact h.q | apply Blk.drew | apply Blk.drewN | apply Blk.alloc | (apply Blk.off; (first | assumption | omega)) | (apply Blk.put; omega) | (apply Blk.put0; omega) | apply Blk.same)
  rintro e w' ⟨rfl, rfl⟩
  go_wp2_with fail
  go_ret
  refine ⟨rfl, ?_, ?_, ?_, ?_, h.N1, h.N2, h.K1, h.K2⟩
  · with_reducible repeat (first | exact Fr.refl _ _ | assumption | apply Fr.drew | apply Fr.drewN | apply Fr.alloc | (apply Fr.step; assumption; (intro _ h; (first | exact h | (focus (simp_all; done))))) | (apply Fr.setIn; (first | exact List.mem_cons_self | exact List.mem_cons_of_mem _ List.mem_cons_self | exact List.mem_cons_of_mem _ (List.mem_cons_of_mem _ List.mem_cons_self) | exact List.mem_cons_of_mem _ (List.mem_cons_of_mem _ (List.mem_cons_of_mem _ List.mem_cons_self)))) | (apply Fr.setNew; (first | omega | (simp; omega))))
  · with_reducible repeat (first | exact Blk.new _ _ _ | (apply Blk.newAt rfl; (first | (simp; done) | (simp; omega))) | assumption | exact h.q | apply Blk.drew | apply Blk.drewN | apply Blk.alloc | (apply Blk.off; (first | assumption | omega)) | (apply Blk.put; omega) | (apply Blk.put0; omega) | apply Blk.same)
  · apply Blk.cast
    · with_reducible repeat (first | exact Blk.new _ _ _ | (apply Blk.newAt rfl; (first | (simp; done) | (simp; omega))) | assumption | exact h.n | apply Blk.drew | apply Blk.drewN | apply Blk.alloc | (apply Blk.off; (first | assumption | omega)) | (apply Blk.put; omega) | (apply Blk.put0; omega) | apply Blk.same)
    refine grid_congr fun a b _ hb => ?_
    by_cases e : a = n
    · subst e; rcases (show b = 0 ∨ b = 1 ∨ b = 2 by omega) with rfl | rfl | rfl <;> simp [linkC, updL]
    · simp [linkC, updL, e]
  · apply Blk.cast
    · with_reducible repeat (first | exact Blk.new _ _ _ | (apply Blk.newAt rfl; (first | (simp; done) | (simp; omega))) | assumption | exact h.e | apply Blk.drew | apply Blk.drewN | apply Blk.alloc | (apply Blk.off; (first | assumption | omega)) | (apply Blk.put; omega) | (apply Blk.put0; omega) | apply Blk.same)
    refine grid_congr fun a b _ hb => ?_
    by_cases e : a = i
    · subst e; rcases (show b = 0 ∨ b = 1 ∨ b = 2 by omega) with rfl | rfl | rfl <;> simp [endsC, updE]
    · simp [endsC, updE, e]

theorem push_ok2 (w : World) (bq bn be N K : Nat) (nd : Nat → Link) (en : Nat → Ends) (h : RepQ w bq bn be N K nd en) (i n m : Nat) (hi : i < K) (hn : n < N) (hm : m < N) (hnm : n ≠ m)
    (hl : nd n = ⟨-1, -1, -1⟩) (he : (en i).last = m) (hc : 0 ≤ (en i).n ∧ (en i).n ≤ 1000) :
    Calls Try.prog 88 #[.pointer (some ⟨bq, 0, none⟩), .int .i64 i, .int .i64 n] w fun e w' => e = .returned (.bool true) ∧ Fr [bn, be] w w' ∧ RepQ w' bq bn be N K (updL (updL nd n ⟨m, -1, i⟩) m { nd m with behind := n }) (updE en i ⟨(en i).first, n, (en i).n + 1⟩) := by
  have n1 := h.n.at0 hn (show 0 < 3 by omega)
  have n2 := h.n.at hn (show 1 < 3 by omega)
  have n3 := h.n.at hn (show 2 < 3 by omega)
  have m2 := h.n.at hm (show 1 < 3 by omega)
  have e1 := h.e.at0 hi (show 0 < 3 by omega)
  have e2 := h.e.at hi (show 1 < 3 by omega)
  have e3 := h.e.at hi (show 2 < 3 by omega)
  simp only [linkC, hl] at n1 n2 n3
  simp only [endsC, he] at e1 e2 e3
  have f1 := h.n.frozen (n * 3)
  have f2 := h.n.frozen (n * 3 + 1)
  have f3 := h.n.frozen (n * 3 + 2)
  have f4 := h.n.frozen (m * 3 + 1)
  have g2 := h.e.frozen (i * 3 + 1)
  have g3 := h.e.frozen (i * 3 + 2)
  have d1 := h.ne1
  have d2 := h.ne2
  have d3 := h.ne3
  have l1 := h.n.lt
  have l2 := h.e.lt
  have HL := Lib.hid hl
  have HE := Lib.hid he
  clear hl he
  go_enter Try.func88, Try.ntmps88
  go_wp2_with fail
  refine (queue_in w bq bn be N K h.q h.K2 i hi).mono ?_
  rintro e w' ⟨rfl, rfl⟩
  go_wp2_with fail
  refine (node_in w bq bn be N K h.q h.N2 n hn).mono ?_
  rintro e w' ⟨rfl, rfl⟩
  go_wp2_with fail
  go_region_held3 (fun w' => w'.cell? ⟨bn, n * 3, none⟩ = some (.int .i64 (-1)) ∧ w'.cell? ⟨bn, n * 3 + 1, none⟩ = some (.int .i64 (-1)) ∧ w'.cell? ⟨bn, n * 3 + 2, none⟩ = some (.int .i64 (-1))) (go_keep)
    (first | (go_at_call 130; refine (loose_any _).mono ?_; rintro e w' ⟨rfl, rfl⟩))
  go_wp2_with fail
  refine (node_in _ bq bn be N K ?hq h.N2 m hm).mono ?_
  case hq => with_reducible repeat (first | exact Blk.new _ _ _ | (apply Blk.newAt rfl; (first | (simp; done) | (simp; omega))) | assumption | exact h.q | apply Blk.drew | apply Blk.drewN | apply Blk.alloc | (apply Blk.off; (first | assumption | omega)) | (apply Blk.put; omega) | (apply Blk.put0; omega) | apply Blk.same)
  rintro e w' ⟨rfl, rfl⟩
  go_wp2_with fail
  go_ret
  refine ⟨rfl, ?_, ?_, ?_, ?_, h.N1, h.N2, h.K1, h.K2⟩
  · with_reducible repeat (first | exact Fr.refl _ _ | assumption | apply Fr.drew | apply Fr.drewN | apply Fr.alloc | (apply Fr.step; assumption; (intro _ h; (first | exact h | (focus (simp_all; done))))) | (apply Fr.setIn; (first | exact List.mem_cons_self | exact List.mem_cons_of_mem _ List.mem_cons_self | exact List.mem_cons_of_mem _ (List.mem_cons_of_mem _ List.mem_cons_self) | exact List.mem_cons_of_mem _ (List.mem_cons_of_mem _ (List.mem_cons_of_mem _ List.mem_cons_self)))) | (apply Fr.setNew; (first | omega | (simp; omega))))
  · with_reducible repeat (first | exact Blk.new _ _ _ | (apply Blk.newAt rfl; (first | (simp; done) | (simp; omega))) | assumption | exact h.q | apply Blk.drew | apply Blk.drewN | apply Blk.alloc | (apply Blk.off; (first | assumption | omega)) | (apply Blk.put; omega) | (apply Blk.put0; omega) | apply Blk.same)
  · apply Blk.cast
    · with_reducible repeat (first | exact Blk.new _ _ _ | (apply Blk.newAt rfl; (first | (simp; done) | (simp; omega))) | assumption | exact h.n | apply Blk.drew | apply Blk.drewN | apply Blk.alloc | (apply Blk.off; (first | assumption | omega)) | (apply Blk.put; omega) | (apply Blk.put0; omega) | apply Blk.same)
    refine grid_congr fun a b _ hb => ?_
    by_cases e : a = m
    · subst e; rcases (show b = 0 ∨ b = 1 ∨ b = 2 by omega) with rfl | rfl | rfl <;> simp [linkC, updL] <;> omega
    · by_cases e' : a = n
      · subst e'; rcases (show b = 0 ∨ b = 1 ∨ b = 2 by omega) with rfl | rfl | rfl <;> simp [linkC, updL, e]
      · simp [linkC, updL, e, e']
  · apply Blk.cast
    · with_reducible repeat (first | exact Blk.new _ _ _ | (apply Blk.newAt rfl; (first | (simp; done) | (simp; omega))) | assumption | exact h.e | apply Blk.drew | apply Blk.drewN | apply Blk.alloc | (apply Blk.off; (first | assumption | omega)) | (apply Blk.put; omega) | (apply Blk.put0; omega) | apply Blk.same)
    refine grid_congr fun a b _ hb => ?_
    by_cases e : a = i
    · subst e; rcases (show b = 0 ∨ b = 1 ∨ b = 2 by omega) with rfl | rfl | rfl <;> simp [endsC, updE]
    · simp [endsC, updE, e]

theorem push_noq (w : World) (bq bn be N K : Nat) (nd : Nat → Link) (en : Nat → Ends) (h : RepQ w bq bn be N K nd en) (i n : Int) (hi : i < 0 ∨ K ≤ i) :
    Calls Try.prog 88 #[.pointer (some ⟨bq, 0, none⟩), .int .i64 i, .int .i64 n] w fun e w' => e = .returned (.bool false) ∧ Fr [bn, be] w w' ∧ RepQ w' bq bn be N K nd en := by
  have hn : (n < 0 ∨ N ≤ n) ∨ (∃ m : Nat, m < N ∧ n = m) := by
    by_cases c : n < 0 ∨ N ≤ n
    · exact .inl c
    · exact .inr ⟨n.toNat, by omega, by omega⟩
  go_enter Try.func88, Try.ntmps88
  go_wp2_with fail
  refine (queue_out w bq bn be N K h.q h.K2 i hi).mono ?_
  rintro e w' ⟨rfl, rfl⟩
  go_wp2_with fail
  rcases hn with hn | ⟨m, hm, rfl⟩
  · refine (node_out w bq bn be N K h.q h.N2 n hn).mono ?_
    rintro e w' ⟨rfl, rfl⟩
    go_wp2_with fail
    go_quiet (fail)
    go_wp2
    go_ret
    refine ⟨rfl, ?_, ?_, ?_, ?_, h.N1, h.N2, h.K1, h.K2⟩
    · with_reducible repeat (first | exact Fr.refl _ _ | assumption | apply Fr.drew | apply Fr.drewN | apply Fr.alloc | (apply Fr.step; assumption; (intro _ h; (first | exact h | (focus (simp_all; done))))) | (apply Fr.setIn; (first | exact List.mem_cons_self | exact List.mem_cons_of_mem _ List.mem_cons_self | exact List.mem_cons_of_mem _ (List.mem_cons_of_mem _ List.mem_cons_self) | exact List.mem_cons_of_mem _ (List.mem_cons_of_mem _ (List.mem_cons_of_mem _ List.mem_cons_self)))) | (apply Fr.setNew; (first | omega | (simp; omega))))
    · with_reducible repeat (first | exact Blk.new _ _ _ | (apply Blk.newAt rfl; (first | (simp; done) | (simp; omega))) | assumption | exact h.q | apply Blk.drew | apply Blk.drewN | apply Blk.alloc | (apply Blk.off; (first | assumption | omega)) | (apply Blk.put; omega) | (apply Blk.put0; omega) | apply Blk.same)
    · with_reducible repeat (first | exact Blk.new _ _ _ | (apply Blk.newAt rfl; (first | (simp; done) | (simp; omega))) | assumption | exact h.n | apply Blk.drew | apply Blk.drewN | apply Blk.alloc | (apply Blk.off; (first | assumption | omega)) | (apply Blk.put; omega) | (apply Blk.put0; omega) | apply Blk.same)
    · with_reducible repeat (first | exact Blk.new _ _ _ | (apply Blk.newAt rfl; (first | (simp; done) | (simp; omega))) | assumption | exact h.e | apply Blk.drew | apply Blk.drewN | apply Blk.alloc | (apply Blk.off; (first | assumption | omega)) | (apply Blk.put; omega) | (apply Blk.put0; omega) | apply Blk.same)
  · refine (node_in w bq bn be N K h.q h.N2 m hm).mono ?_
    rintro e w' ⟨rfl, rfl⟩
    go_wp2_with fail
    go_quiet (fail)
    go_wp2
    go_ret
    refine ⟨rfl, ?_, ?_, ?_, ?_, h.N1, h.N2, h.K1, h.K2⟩
    · with_reducible repeat (first | exact Fr.refl _ _ | assumption | apply Fr.drew | apply Fr.drewN | apply Fr.alloc | (apply Fr.step; assumption; (intro _ h; (first | exact h | (focus (simp_all; done))))) | (apply Fr.setIn; (first | exact List.mem_cons_self | exact List.mem_cons_of_mem _ List.mem_cons_self | exact List.mem_cons_of_mem _ (List.mem_cons_of_mem _ List.mem_cons_self) | exact List.mem_cons_of_mem _ (List.mem_cons_of_mem _ (List.mem_cons_of_mem _ List.mem_cons_self)))) | (apply Fr.setNew; (first | omega | (simp; omega))))
    · with_reducible repeat (first | exact Blk.new _ _ _ | (apply Blk.newAt rfl; (first | (simp; done) | (simp; omega))) | assumption | exact h.q | apply Blk.drew | apply Blk.drewN | apply Blk.alloc | (apply Blk.off; (first | assumption | omega)) | (apply Blk.put; omega) | (apply Blk.put0; omega) | apply Blk.same)
    · with_reducible repeat (first | exact Blk.new _ _ _ | (apply Blk.newAt rfl; (first | (simp; done) | (simp; omega))) | assumption | exact h.n | apply Blk.drew | apply Blk.drewN | apply Blk.alloc | (apply Blk.off; (first | assumption | omega)) | (apply Blk.put; omega) | (apply Blk.put0; omega) | apply Blk.same)
    · with_reducible repeat (first | exact Blk.new _ _ _ | (apply Blk.newAt rfl; (first | (simp; done) | (simp; omega))) | assumption | exact h.e | apply Blk.drew | apply Blk.drewN | apply Blk.alloc | (apply Blk.off; (first | assumption | omega)) | (apply Blk.put; omega) | (apply Blk.put0; omega) | apply Blk.same)

theorem push_non (w : World) (bq bn be N K : Nat) (nd : Nat → Link) (en : Nat → Ends) (h : RepQ w bq bn be N K nd en) (i : Nat) (n : Int) (hi : i < K) (hn : n < 0 ∨ N ≤ n) :
    Calls Try.prog 88 #[.pointer (some ⟨bq, 0, none⟩), .int .i64 i, .int .i64 n] w fun e w' => e = .returned (.bool false) ∧ Fr [bn, be] w w' ∧ RepQ w' bq bn be N K nd en := by
  go_enter Try.func88, Try.ntmps88
  go_wp2_with fail
  refine (queue_in w bq bn be N K h.q h.K2 i hi).mono ?_
  rintro e w' ⟨rfl, rfl⟩
  go_wp2_with fail
  refine (node_out w bq bn be N K h.q h.N2 n hn).mono ?_
  rintro e w' ⟨rfl, rfl⟩
  go_wp2_with fail
  go_quiet (fail)
  go_wp2
  go_ret
  refine ⟨rfl, ?_, ?_, ?_, ?_, h.N1, h.N2, h.K1, h.K2⟩
  · with_reducible repeat (first | exact Fr.refl _ _ | assumption | apply Fr.drew | apply Fr.drewN | apply Fr.alloc | (apply Fr.step; assumption; (intro _ h; (first | exact h | (focus (simp_all; done))))) | (apply Fr.setIn; (first | exact List.mem_cons_self | exact List.mem_cons_of_mem _ List.mem_cons_self | exact List.mem_cons_of_mem _ (List.mem_cons_of_mem _ List.mem_cons_self) | exact List.mem_cons_of_mem _ (List.mem_cons_of_mem _ (List.mem_cons_of_mem _ List.mem_cons_self)))) | (apply Fr.setNew; (first | omega | (simp; omega))))
  · with_reducible repeat (first | exact Blk.new _ _ _ | (apply Blk.newAt rfl; (first | (simp; done) | (simp; omega))) | assumption | exact h.q | apply Blk.drew | apply Blk.drewN | apply Blk.alloc | (apply Blk.off; (first | assumption | omega)) | (apply Blk.put; omega) | (apply Blk.put0; omega) | apply Blk.same)
  · with_reducible repeat (first | exact Blk.new _ _ _ | (apply Blk.newAt rfl; (first | (simp; done) | (simp; omega))) | assumption | exact h.n | apply Blk.drew | apply Blk.drewN | apply Blk.alloc | (apply Blk.off; (first | assumption | omega)) | (apply Blk.put; omega) | (apply Blk.put0; omega) | apply Blk.same)
  · with_reducible repeat (first | exact Blk.new _ _ _ | (apply Blk.newAt rfl; (first | (simp; done) | (simp; omega))) | assumption | exact h.e | apply Blk.drew | apply Blk.drewN | apply Blk.alloc | (apply Blk.off; (first | assumption | omega)) | (apply Blk.put; omega) | (apply Blk.put0; omega) | apply Blk.same)

theorem push_in (w : World) (bq bn be N K : Nat) (nd : Nat → Link) (en : Nat → Ends) (h : RepQ w bq bn be N K nd en) (i n : Nat) (hi : i < K) (hn : n < N)
    (hl : ((nd n).queue == -1) = false) :
    Calls Try.prog 88 #[.pointer (some ⟨bq, 0, none⟩), .int .i64 i, .int .i64 n] w fun e w' => e = .returned (.bool false) ∧ Fr [bn, be] w w' ∧ RepQ w' bq bn be N K nd en := by
  have n1 := h.n.at0 hn (show 0 < 3 by omega)
  have n2 := h.n.at hn (show 1 < 3 by omega)
  have n3 := h.n.at hn (show 2 < 3 by omega)
  simp only [linkC] at n1 n2 n3
  have l1 := h.n.lt
  go_enter Try.func88, Try.ntmps88
  go_wp2_with fail
  refine (queue_in w bq bn be N K h.q h.K2 i hi).mono ?_
  rintro e w' ⟨rfl, rfl⟩
  go_wp2_with fail
  refine (node_in w bq bn be N K h.q h.N2 n hn).mono ?_
  rintro e w' ⟨rfl, rfl⟩
  go_wp2_with fail
  go_region_held3 (fun w' => w'.cell? ⟨bn, n * 3, none⟩ = some (.int .i64 (nd n).ahead) ∧ w'.cell? ⟨bn, n * 3 + 1, none⟩ = some (.int .i64 (nd n).behind) ∧ w'.cell? ⟨bn, n * 3 + 2, none⟩ = some (.int .i64 (nd n).queue)) (go_keep)
    (first | (go_at_call 130; refine (loose_any _).mono ?_; rintro e w' ⟨rfl, rfl⟩))
  go_wp2
  go_ret
  refine ⟨rfl, ?_, ?_, ?_, ?_, h.N1, h.N2, h.K1, h.K2⟩
  · with_reducible repeat (first | exact Fr.refl _ _ | assumption | apply Fr.drew | apply Fr.drewN | apply Fr.alloc | (apply Fr.step; assumption; (intro _ h; (first | exact h | (focus (simp_all; done))))) | (apply Fr.setIn; (first | exact List.mem_cons_self | exact List.mem_cons_of_mem _ List.mem_cons_self | exact List.mem_cons_of_mem _ (List.mem_cons_of_mem _ List.mem_cons_self) | exact List.mem_cons_of_mem _ (List.mem_cons_of_mem _ (List.mem_cons_of_mem _ List.mem_cons_self)))) | (apply Fr.setNew; (first | omega | (simp; omega))))
  · with_reducible repeat (first | exact Blk.new _ _ _ | (apply Blk.newAt rfl; (first | (simp; done) | (simp; omega))) | assumption | exact h.q | apply Blk.drew | apply Blk.drewN | apply Blk.alloc | (apply Blk.off; (first | assumption | omega)) | (apply Blk.put; omega) | (apply Blk.put0; omega) | apply Blk.same)
  · with_reducible repeat (first | exact Blk.new _ _ _ | (apply Blk.newAt rfl; (first | (simp; done) | (simp; omega))) | assumption | exact h.n | apply Blk.drew | apply Blk.drewN | apply Blk.alloc | (apply Blk.off; (first | assumption | omega)) | (apply Blk.put; omega) | (apply Blk.put0; omega) | apply Blk.same)
  · with_reducible repeat (first | exact Blk.new _ _ _ | (apply Blk.newAt rfl; (first | (simp; done) | (simp; omega))) | assumption | exact h.e | apply Blk.drew | apply Blk.drewN | apply Blk.alloc | (apply Blk.off; (first | assumption | omega)) | (apply Blk.put; omega) | (apply Blk.put0; omega) | apply Blk.same)

theorem push_nil (w : World) (i n : Int) :
    Calls Try.prog 88 #[.pointer none, .int .i64 i, .int .i64 n] w fun e w' => e = .returned (.bool false) ∧ Fr [] w w' := by
  go_enter Try.func88, Try.ntmps88
  go_wp2_with fail
  refine (queue_nil w i).mono ?_
  rintro e w' ⟨rfl, rfl⟩
  go_wp2_with fail
  refine (node_nil w n).mono ?_
  rintro e w' ⟨rfl, rfl⟩
  go_wp2_with fail
  go_quiet (fail)
  go_wp2
  go_ret
  refine ⟨rfl, ?_⟩
  with_reducible repeat (first | exact Fr.refl _ _ | assumption | apply Fr.drew | apply Fr.drewN | apply Fr.alloc | (apply Fr.step; assumption; (intro _ h; (first | exact h | (focus (simp_all; done))))) | (apply Fr.setIn; (first | exact List.mem_cons_self | exact List.mem_cons_of_mem _ List.mem_cons_self | exact List.mem_cons_of_mem _ (List.mem_cons_of_mem _ List.mem_cons_self) | exact List.mem_cons_of_mem _ (List.mem_cons_of_mem _ (List.mem_cons_of_mem _ List.mem_cons_self)))) | (apply Fr.setNew; (first | omega | (simp; omega))))

theorem of_in (w : World) (bq bn be N K : Nat) (nd : Nat → Link) (en : Nat → Ends) (h : RepQ w bq bn be N K nd en) (n : Nat) (hn : n < N) (hl : ((nd n).queue == -1) = false) :
    Calls Try.prog 166 #[.pointer (some ⟨bq, 0, none⟩), .int .i64 n] w fun e w' => e = .returned (.tuple #[.int .i64 (nd n).queue, .bool true]) ∧ w = w' := by
  have n3 := h.n.at hn (show 2 < 3 by omega)
  simp only [linkC] at n3
  go_enter Try.func166, Try.ntmps166
  go_wp2_with fail
  refine (node_in w bq bn be N K h.q h.N2 n hn).mono ?_
  rintro e w' ⟨rfl, rfl⟩
  go_wp2
  go_ret2
  exact ⟨rfl, rfl⟩

theorem of_loose (w : World) (bq bn be N K : Nat) (nd : Nat → Link) (en : Nat → Ends) (h : RepQ w bq bn be N K nd en) (n : Nat) (hn : n < N) (hl : (nd n).queue = -1) :
    Calls Try.prog 166 #[.pointer (some ⟨bq, 0, none⟩), .int .i64 n] w fun e w' => e = .returned (.tuple #[.int .i64 0, .bool false]) ∧ w = w' := by
  have n3 := h.n.at hn (show 2 < 3 by omega)
  simp only [linkC, hl] at n3
  clear hl
  go_enter Try.func166, Try.ntmps166
  go_wp2_with fail
  refine (node_in w bq bn be N K h.q h.N2 n hn).mono ?_
  rintro e w' ⟨rfl, rfl⟩
  go_wp2
  go_ret2
  exact ⟨rfl, rfl⟩

theorem of_out (w : World) (bq bn be N K : Nat) (nd : Nat → Link) (en : Nat → Ends) (h : RepQ w bq bn be N K nd en) (n : Int) (hn : n < 0 ∨ N ≤ n) :
    Calls Try.prog 166 #[.pointer (some ⟨bq, 0, none⟩), .int .i64 n] w fun e w' => e = .returned (.tuple #[.int .i64 0, .bool false]) ∧ w = w' := by
  go_enter Try.func166, Try.ntmps166
  go_wp2_with fail
  refine (node_out w bq bn be N K h.q h.N2 n hn).mono ?_
  rintro e w' ⟨rfl, rfl⟩
  go_wp2
  go_ret2
  exact ⟨rfl, rfl⟩

theorem of_nil (w : World) (n : Int) :
    Calls Try.prog 166 #[.pointer none, .int .i64 n] w fun e w' => e = .returned (.tuple #[.int .i64 0, .bool false]) ∧ w = w' := by
  go_enter Try.func166, Try.ntmps166
  go_wp2_with fail
  refine (node_nil w n).mono ?_
  rintro e w' ⟨rfl, rfl⟩
  go_wp2
  go_ret2
  exact ⟨rfl, rfl⟩

theorem front_some (w : World) (bq bn be N K : Nat) (nd : Nat → Link) (en : Nat → Ends) (h : RepQ w bq bn be N K nd en) (i : Nat) (hi : i < K) (he : ((en i).first == -1) = false) :
    Calls Try.prog 94 #[.pointer (some ⟨bq, 0, none⟩), .int .i64 i] w fun e w' => e = .returned (.tuple #[.int .i64 (en i).first, .bool true]) ∧ Fr [] w w' := by
  have e1 := h.e.at0 hi (show 0 < 3 by omega)
  have e2 := h.e.at hi (show 1 < 3 by omega)
  have e3 := h.e.at hi (show 2 < 3 by omega)
  simp only [endsC] at e1 e2 e3
  have l2 := h.e.lt
  go_enter Try.func94, Try.ntmps94
  go_wp2_with fail
  refine (queue_in w bq bn be N K h.q h.K2 i hi).mono ?_
  rintro e w' ⟨rfl, rfl⟩
  go_wp2_with fail
  go_region_held3 (fun w' => w'.cell? ⟨be, i * 3, none⟩ = some (.int .i64 (en i).first) ∧ w'.cell? ⟨be, i * 3 + 1, none⟩ = some (.int .i64 (en i).last) ∧ w'.cell? ⟨be, i * 3 + 2, none⟩ = some (.int .i64 (en i).n)) (go_keep)
    (first | (go_at_call 131; refine (empty_any _).mono ?_; rintro e w' ⟨rfl, rfl⟩))
  go_wp2
  go_ret2
  refine ⟨rfl, ?_⟩
  with_reducible repeat (first | exact Fr.refl _ _ | assumption | apply Fr.drew | apply Fr.drewN | apply Fr.alloc | (apply Fr.step; assumption; (intro _ h; (first | exact h | (focus (simp_all; done))))) | (apply Fr.setIn; (first | exact List.mem_cons_self | exact List.mem_cons_of_mem _ List.mem_cons_self | exact List.mem_cons_of_mem _ (List.mem_cons_of_mem _ List.mem_cons_self) | exact List.mem_cons_of_mem _ (List.mem_cons_of_mem _ (List.mem_cons_of_mem _ List.mem_cons_self)))) | (apply Fr.setNew; (first | omega | (simp; omega))))

theorem front_empty (w : World) (bq bn be N K : Nat) (nd : Nat → Link) (en : Nat → Ends) (h : RepQ w bq bn be N K nd en) (i : Nat) (hi : i < K) (he : en i = ⟨-1, -1, 0⟩) :
    Calls Try.prog 94 #[.pointer (some ⟨bq, 0, none⟩), .int .i64 i] w fun e w' => e = .returned (.tuple #[.int .i64 0, .bool false]) ∧ Fr [] w w' := by
  have e1 := h.e.at0 hi (show 0 < 3 by omega)
  have e2 := h.e.at hi (show 1 < 3 by omega)
  have e3 := h.e.at hi (show 2 < 3 by omega)
  simp only [endsC, he] at e1 e2 e3
  clear he
  have l2 := h.e.lt
  go_enter Try.func94, Try.ntmps94
  go_wp2_with fail
  refine (queue_in w bq bn be N K h.q h.K2 i hi).mono ?_
  rintro e w' ⟨rfl, rfl⟩
  go_wp2_with fail
  go_region_held3 (fun w' => w'.cell? ⟨be, i * 3, none⟩ = some (.int .i64 (-1)) ∧ w'.cell? ⟨be, i * 3 + 1, none⟩ = some (.int .i64 (-1)) ∧ w'.cell? ⟨be, i * 3 + 2, none⟩ = some (.int .i64 0)) (go_keep)
    (first | (go_at_call 131; refine (empty_any _).mono ?_; rintro e w' ⟨rfl, rfl⟩))
  go_wp2
  go_ret2
  refine ⟨rfl, ?_⟩
  with_reducible repeat (first | exact Fr.refl _ _ | assumption | apply Fr.drew | apply Fr.drewN | apply Fr.alloc | (apply Fr.step; assumption; (intro _ h; (first | exact h | (focus (simp_all; done))))) | (apply Fr.setIn; (first | exact List.mem_cons_self | exact List.mem_cons_of_mem _ List.mem_cons_self | exact List.mem_cons_of_mem _ (List.mem_cons_of_mem _ List.mem_cons_self) | exact List.mem_cons_of_mem _ (List.mem_cons_of_mem _ (List.mem_cons_of_mem _ List.mem_cons_self)))) | (apply Fr.setNew; (first | omega | (simp; omega))))

theorem front_out (w : World) (bq bn be N K : Nat) (nd : Nat → Link) (en : Nat → Ends) (h : RepQ w bq bn be N K nd en) (i : Int) (hi : i < 0 ∨ K ≤ i) :
    Calls Try.prog 94 #[.pointer (some ⟨bq, 0, none⟩), .int .i64 i] w fun e w' => e = .returned (.tuple #[.int .i64 0, .bool false]) ∧ Fr [] w w' := by
  go_enter Try.func94, Try.ntmps94
  go_wp2_with fail
  refine (queue_out w bq bn be N K h.q h.K2 i hi).mono ?_
  rintro e w' ⟨rfl, rfl⟩
  go_wp2_with fail
  go_quiet (fail)
  go_wp2
  go_ret2
  refine ⟨rfl, ?_⟩
  with_reducible repeat (first | exact Fr.refl _ _ | assumption | apply Fr.drew | apply Fr.drewN | apply Fr.alloc | (apply Fr.step; assumption; (intro _ h; (first | exact h | (focus (simp_all; done))))) | (apply Fr.setIn; (first | exact List.mem_cons_self | exact List.mem_cons_of_mem _ List.mem_cons_self | exact List.mem_cons_of_mem _ (List.mem_cons_of_mem _ List.mem_cons_self) | exact List.mem_cons_of_mem _ (List.mem_cons_of_mem _ (List.mem_cons_of_mem _ List.mem_cons_self)))) | (apply Fr.setNew; (first | omega | (simp; omega))))

theorem front_nil (w : World) (i : Int) :
    Calls Try.prog 94 #[.pointer none, .int .i64 i] w fun e w' => e = .returned (.tuple #[.int .i64 0, .bool false]) ∧ Fr [] w w' := by
  go_enter Try.func94, Try.ntmps94
  go_wp2_with fail
  refine (queue_nil w i).mono ?_
  rintro e w' ⟨rfl, rfl⟩
  go_wp2_with fail
  go_quiet (fail)
  go_wp2
  go_ret2
  refine ⟨rfl, ?_⟩
  with_reducible repeat (first | exact Fr.refl _ _ | assumption | apply Fr.drew | apply Fr.drewN | apply Fr.alloc | (apply Fr.step; assumption; (intro _ h; (first | exact h | (focus (simp_all; done))))) | (apply Fr.setIn; (first | exact List.mem_cons_self | exact List.mem_cons_of_mem _ List.mem_cons_self | exact List.mem_cons_of_mem _ (List.mem_cons_of_mem _ List.mem_cons_self) | exact List.mem_cons_of_mem _ (List.mem_cons_of_mem _ (List.mem_cons_of_mem _ List.mem_cons_self)))) | (apply Fr.setNew; (first | omega | (simp; omega))))
end Go.Proofs.Ytkimldeagndgjaa

/- The queues' Remove and Pop, walked. -/
namespace Go.Proofs.Ytkimldeagndgjaa
set_option linter.unusedVariables false
set_option linter.unusedSimpArgs false
open Go.RowKit

theorem remove_no (w : World) (bq bn be N K : Nat) (nd : Nat → Link) (en : Nat → Ends) (h : RepQ w bq bn be N K nd en) (n : Int) (hn : (n < 0 ∨ N ≤ n) ∨ (∃ m : Nat, m < N ∧ n = m ∧ (nd m).queue = -1)) :
    Calls Try.prog 137 #[.pointer (some ⟨bq, 0, none⟩), .int .i64 n] w fun e w' => e = .returned (.tuple #[.int .i64 0, .bool false]) ∧ w = w' := by
  rcases hn with hn | ⟨m, hm, rfl, hl⟩
  · go_enter Try.func137, Try.ntmps137
    go_wp2_with fail
    refine (of_out w bq bn be N K nd en h n hn).mono ?_
    rintro e w' ⟨rfl, rfl⟩
    go_wp2
    go_ret2
    exact ⟨rfl, rfl⟩
  · have hL := Lib.hid hl
    clear hl
    go_enter Try.func137, Try.ntmps137
    go_wp2_with fail
    refine (of_loose w bq bn be N K nd en h m hm hL.out).mono ?_
    rintro e w' ⟨rfl, rfl⟩
    go_wp2
    go_ret2
    exact ⟨rfl, rfl⟩

theorem remove_nil (w : World) (n : Int) :
    Calls Try.prog 137 #[.pointer none, .int .i64 n] w fun e w' => e = .returned (.tuple #[.int .i64 0, .bool false]) ∧ w = w' := by
  go_enter Try.func137, Try.ntmps137
  go_wp2_with fail
  refine (of_nil w n).mono ?_
  rintro e w' ⟨rfl, rfl⟩
  go_wp2
  go_ret2
  exact ⟨rfl, rfl⟩

set_option maxHeartbeats 800000 in
set_option maxHeartbeats 800000 in
set_option maxHeartbeats 800000 in
theorem remove_00 (w : World) (bq bn be N K : Nat) (nd : Nat → Link) (en : Nat → Ends) (h : RepQ w bq bn be N K nd en) (i n : Nat) (hi : i < K) (hn : n < N)
    (hl : nd n = ⟨-1, -1, i⟩) (hc : 0 ≤ (en i).n ∧ (en i).n ≤ 1000) :
    Calls Try.prog 137 #[.pointer (some ⟨bq, 0, none⟩), .int .i64 n] w fun e w' => e = .returned (.tuple #[.int .i64 i, .bool true]) ∧ Fr [bn, be] w w' ∧ RepQ w' bq bn be N K (updL nd n ⟨-1, -1, -1⟩) (updE en i ⟨-1, -1, (en i).n - 1⟩) := by
  have hQ1 : (((nd n).queue : Int) == -1) = false := by rw [hl]; first | (simp; done) | (simp; omega)
  have hqv : (nd n).queue = i := by rw [hl]
  have n1 := h.n.at0 hn (show 0 < 3 by omega)
  have n2 := h.n.at hn (show 1 < 3 by omega)
  have n3 := h.n.at hn (show 2 < 3 by omega)
  have e1 := h.e.at0 hi (show 0 < 3 by omega)
  have e2 := h.e.at hi (show 1 < 3 by omega)
  have e3 := h.e.at hi (show 2 < 3 by omega)
  simp only [linkC, hl] at n1 n2 n3
  simp only [endsC] at e1 e2 e3
  have f1 := h.n.frozen (n * 3)
  have f2 := h.n.frozen (n * 3 + 1)
  have f3 := h.n.frozen (n * 3 + 2)
  have g1 := h.e.frozen (i * 3)
  have g2 := h.e.frozen (i * 3 + 1)
  have g3 := h.e.frozen (i * 3 + 2)
  have q1 := h.q.cell 0
  have d1 := h.ne1
  have d2 := h.ne2
  have d3 := h.ne3
  have l0 := h.q.lt
  have l1 := h.n.lt
  have l2 := h.e.lt
  have b1 := h.N2
  have HL := Lib.hid hl
  have HQ := Lib.hid hqv
  clear hl hqv
  have hmf : ∀ (fn : Fn) (first cap : Array Value) (w : World), (Instr.makeFunc fn first cap).run Try.prog w = .ok (.func fn first cap) w := fun _ _ _ _ => rfl
  go_enter Try.func137, Try.ntmps137
  go_wp2_with fail
  refine (of_in w bq bn be N K nd en h n hn hQ1).mono ?_
  rw [HQ.out]
  clear hQ1
  rintro e w' ⟨rfl, rfl⟩
  go_wp2_with fail
  go_region_held3 (fun w' => w'.cell? ⟨bn, n * 3, none⟩ = some (.int .i64 (-1)) ∧ w'.cell? ⟨bn, n * 3 + 1, none⟩ = some (.int .i64 (-1)) ∧ w'.cell? ⟨bn, n * 3 + 2, none⟩ = some (.int .i64 i)) (go_keep)
    (first | (go_at_call 136; refine (node_in _ bq bn be N K (by with_reducible repeat (first | exact Blk.new _ _ _ | (apply Blk.newAt rfl; (first | (simp; done) | (simp; omega))) | assumption | exact h.q | apply Blk.drew | apply Blk.drewN | apply Blk.alloc | (apply Blk.off; (first | assumption | omega)) | (apply Blk.put; omega) | (apply Blk.put0; omega) | apply Blk.same)) h.N2 n hn).mono ?_; rintro e w' ⟨rfl, rfl⟩) | (go_at_call 135; refine (queue_in _ bq bn be N K (by with_reducible repeat (first | exact Blk.new _ _ _ | (apply Blk.newAt rfl; (first | (simp; done) | (simp; omega))) | assumption | exact h.q | apply Blk.drew | apply Blk.drewN | apply Blk.alloc | (apply Blk.off; (first | assumption | omega)) | (apply Blk.put; omega) | (apply Blk.put0; omega) | apply Blk.same)) h.K2 i hi).mono ?_; rintro e w' ⟨rfl, rfl⟩))
  all_goals
    skip
    go_wp2_with fail
    refine (node_out _ bq bn be N K (by with_reducible repeat (first | exact Blk.new _ _ _ | (apply Blk.newAt rfl; (first | (simp; done) | (simp; omega))) | assumption | exact h.q | apply Blk.drew | apply Blk.drewN | apply Blk.alloc | (apply Blk.off; (first | assumption | omega)) | (apply Blk.put; omega) | (apply Blk.put0; omega) | apply Blk.same)) h.N2 (-1) (by omega)).mono ?_
    rintro e w' ⟨rfl, rfl⟩
    go_wp2_with fail
    refine (node_out _ bq bn be N K (by with_reducible repeat (first | exact Blk.new _ _ _ | (apply Blk.newAt rfl; (first | (simp; done) | (simp; omega))) | assumption | exact h.q | apply Blk.drew | apply Blk.drewN | apply Blk.alloc | (apply Blk.off; (first | assumption | omega)) | (apply Blk.put; omega) | (apply Blk.put0; omega) | apply Blk.same)) h.N2 (-1) (by omega)).mono ?_
    rintro e w' ⟨rfl, rfl⟩
    go_wp2_with fail
    go_region_held3 (fun w' => w'.cell? ⟨bq, 0, none⟩ = some (.slice (some ⟨bn, 0, none⟩) N N)) ((refine (Blk.cell (?_ : BlkQ _ bq bn be N K) 0).trans rfl; (with_reducible repeat (first | exact Blk.new _ _ _ | (apply Blk.newAt rfl; (first | (simp; done) | (simp; omega))) | assumption | exact h.q | apply Blk.drew | apply Blk.drewN | apply Blk.alloc | (apply Blk.off; (first | assumption | omega)) | (apply Blk.put; omega) | (apply Blk.put0; omega) | apply Blk.same))))
      (first | (go_at_call 130; refine (loose_any _).mono ?_; rintro e w' ⟨rfl, rfl⟩))
    go_wp2_with fail
    go_ret2
    refine ⟨rfl, ?_, ?_, ?_, ?_, h.N1, h.N2, h.K1, h.K2⟩
    · with_reducible repeat (first | exact Fr.refl _ _ | assumption | apply Fr.drew | apply Fr.drewN | apply Fr.alloc | (apply Fr.step; assumption; (intro _ h; (first | exact h | (focus (simp_all; done))))) | (apply Fr.setIn; (first | exact List.mem_cons_self | exact List.mem_cons_of_mem _ List.mem_cons_self | exact List.mem_cons_of_mem _ (List.mem_cons_of_mem _ List.mem_cons_self) | exact List.mem_cons_of_mem _ (List.mem_cons_of_mem _ (List.mem_cons_of_mem _ List.mem_cons_self)))) | (apply Fr.setNew; (first | omega | (simp; omega))))
    · with_reducible repeat (first | exact Blk.new _ _ _ | (apply Blk.newAt rfl; (first | (simp; done) | (simp; omega))) | assumption | exact h.q | apply Blk.drew | apply Blk.drewN | apply Blk.alloc | (apply Blk.off; (first | assumption | omega)) | (apply Blk.put; omega) | (apply Blk.put0; omega) | apply Blk.same)
    · apply Blk.cast
      · with_reducible repeat (first | exact Blk.new _ _ _ | (apply Blk.newAt rfl; (first | (simp; done) | (simp; omega))) | assumption | exact h.n | apply Blk.drew | apply Blk.drewN | apply Blk.alloc | (apply Blk.off; (first | assumption | omega)) | (apply Blk.put; omega) | (apply Blk.put0; omega) | apply Blk.same)
      refine grid_congr fun a b _ hb => ?_
      by_cases e0 : a = n
      · subst e0; rcases (show b = 0 ∨ b = 1 ∨ b = 2 by omega) with rfl | rfl | rfl <;> simp [linkC, updL]
      simp [linkC, updL, e0]
    · apply Blk.cast
      · with_reducible repeat (first | exact Blk.new _ _ _ | (apply Blk.newAt rfl; (first | (simp; done) | (simp; omega))) | assumption | exact h.e | apply Blk.drew | apply Blk.drewN | apply Blk.alloc | (apply Blk.off; (first | assumption | omega)) | (apply Blk.put; omega) | (apply Blk.put0; omega) | apply Blk.same)
      refine grid_congr fun a b _ hb => ?_
      by_cases e : a = i
      · subst e; rcases (show b = 0 ∨ b = 1 ∨ b = 2 by omega) with rfl | rfl | rfl <;> simp [endsC, updE]
      · simp [endsC, updE, e]

set_option maxHeartbeats 800000 in
theorem remove_10 (w : World) (bq bn be N K : Nat) (nd : Nat → Link) (en : Nat → Ends) (h : RepQ w bq bn be N K nd en) (i n p : Nat) (hi : i < K) (hn : n < N) (hp : p < N) (hpn : p ≠ n)
    (hl : nd n = ⟨(p : Int), -1, i⟩) (hc : 0 ≤ (en i).n ∧ (en i).n ≤ 1000) :
    Calls Try.prog 137 #[.pointer (some ⟨bq, 0, none⟩), .int .i64 n] w fun e w' => e = .returned (.tuple #[.int .i64 i, .bool true]) ∧ Fr [bn, be] w w' ∧ RepQ w' bq bn be N K (updL (updL nd p { nd p with behind := -1 }) n ⟨-1, -1, -1⟩) (updE en i ⟨(en i).first, p, (en i).n - 1⟩) := by
  have hQ1 : (((nd n).queue : Int) == -1) = false := by rw [hl]; first | (simp; done) | (simp; omega)
  have hqv : (nd n).queue = i := by rw [hl]
  have n1 := h.n.at0 hn (show 0 < 3 by omega)
  have n2 := h.n.at hn (show 1 < 3 by omega)
  have n3 := h.n.at hn (show 2 < 3 by omega)
  have e1 := h.e.at0 hi (show 0 < 3 by omega)
  have e2 := h.e.at hi (show 1 < 3 by omega)
  have e3 := h.e.at hi (show 2 < 3 by omega)
  simp only [linkC, hl] at n1 n2 n3
  simp only [endsC] at e1 e2 e3
  have p1 := h.n.at0 hp (show 0 < 3 by omega)
  have p2 := h.n.at hp (show 1 < 3 by omega)
  simp only [linkC] at p1 p2
  have xp1 := h.n.frozen (p * 3)
  have xp2 := h.n.frozen (p * 3 + 1)
  have f1 := h.n.frozen (n * 3)
  have f2 := h.n.frozen (n * 3 + 1)
  have f3 := h.n.frozen (n * 3 + 2)
  have g1 := h.e.frozen (i * 3)
  have g2 := h.e.frozen (i * 3 + 1)
  have g3 := h.e.frozen (i * 3 + 2)
  have q1 := h.q.cell 0
  have d1 := h.ne1
  have d2 := h.ne2
  have d3 := h.ne3
  have l0 := h.q.lt
  have l1 := h.n.lt
  have l2 := h.e.lt
  have b1 := h.N2
  have HL := Lib.hid hl
  have HQ := Lib.hid hqv
  clear hl hqv
  have hmf : ∀ (fn : Fn) (first cap : Array Value) (w : World), (Instr.makeFunc fn first cap).run Try.prog w = .ok (.func fn first cap) w := fun _ _ _ _ => rfl
  go_enter Try.func137, Try.ntmps137
  go_wp2_with fail
  refine (of_in w bq bn be N K nd en h n hn hQ1).mono ?_
  rw [HQ.out]
  clear hQ1
  rintro e w' ⟨rfl, rfl⟩
  go_wp2_with fail
  go_region_held3 (fun w' => w'.cell? ⟨bn, n * 3, none⟩ = some (.int .i64 ((p : Int))) ∧ w'.cell? ⟨bn, n * 3 + 1, none⟩ = some (.int .i64 (-1)) ∧ w'.cell? ⟨bn, n * 3 + 2, none⟩ = some (.int .i64 i)) (go_keep)
    (first | (go_at_call 136; refine (node_in _ bq bn be N K (by with_reducible repeat (first | exact Blk.new _ _ _ | (apply Blk.newAt rfl; (first | (simp; done) | (simp; omega))) | assumption | exact h.q | apply Blk.drew | apply Blk.drewN | apply Blk.alloc | (apply Blk.off; (first | assumption | omega)) | (apply Blk.put; omega) | (apply Blk.put0; omega) | apply Blk.same)) h.N2 n hn).mono ?_; rintro e w' ⟨rfl, rfl⟩) | (go_at_call 135; refine (queue_in _ bq bn be N K (by with_reducible repeat (first | exact Blk.new _ _ _ | (apply Blk.newAt rfl; (first | (simp; done) | (simp; omega))) | assumption | exact h.q | apply Blk.drew | apply Blk.drewN | apply Blk.alloc | (apply Blk.off; (first | assumption | omega)) | (apply Blk.put; omega) | (apply Blk.put0; omega) | apply Blk.same)) h.K2 i hi).mono ?_; rintro e w' ⟨rfl, rfl⟩))
  all_goals
    skip
    go_wp2_with fail
    refine (node_in _ bq bn be N K (by with_reducible repeat (first | exact Blk.new _ _ _ | (apply Blk.newAt rfl; (first | (simp; done) | (simp; omega))) | assumption | exact h.q | apply Blk.drew | apply Blk.drewN | apply Blk.alloc | (apply Blk.off; (first | assumption | omega)) | (apply Blk.put; omega) | (apply Blk.put0; omega) | apply Blk.same)) h.N2 p (by omega)).mono ?_
    rintro e w' ⟨rfl, rfl⟩
    go_wp2_with fail
    refine (node_out _ bq bn be N K (by with_reducible repeat (first | exact Blk.new _ _ _ | (apply Blk.newAt rfl; (first | (simp; done) | (simp; omega))) | assumption | exact h.q | apply Blk.drew | apply Blk.drewN | apply Blk.alloc | (apply Blk.off; (first | assumption | omega)) | (apply Blk.put; omega) | (apply Blk.put0; omega) | apply Blk.same)) h.N2 (-1) (by omega)).mono ?_
    rintro e w' ⟨rfl, rfl⟩
    go_wp2_with fail
    go_region_held3 (fun w' => w'.cell? ⟨bq, 0, none⟩ = some (.slice (some ⟨bn, 0, none⟩) N N)) ((refine (Blk.cell (?_ : BlkQ _ bq bn be N K) 0).trans rfl; (with_reducible repeat (first | exact Blk.new _ _ _ | (apply Blk.newAt rfl; (first | (simp; done) | (simp; omega))) | assumption | exact h.q | apply Blk.drew | apply Blk.drewN | apply Blk.alloc | (apply Blk.off; (first | assumption | omega)) | (apply Blk.put; omega) | (apply Blk.put0; omega) | apply Blk.same))))
      (first | (go_at_call 130; refine (loose_any _).mono ?_; rintro e w' ⟨rfl, rfl⟩))
    go_wp2_with fail
    go_ret2
    refine ⟨rfl, ?_, ?_, ?_, ?_, h.N1, h.N2, h.K1, h.K2⟩
    · with_reducible repeat (first | exact Fr.refl _ _ | assumption | apply Fr.drew | apply Fr.drewN | apply Fr.alloc | (apply Fr.step; assumption; (intro _ h; (first | exact h | (focus (simp_all; done))))) | (apply Fr.setIn; (first | exact List.mem_cons_self | exact List.mem_cons_of_mem _ List.mem_cons_self | exact List.mem_cons_of_mem _ (List.mem_cons_of_mem _ List.mem_cons_self) | exact List.mem_cons_of_mem _ (List.mem_cons_of_mem _ (List.mem_cons_of_mem _ List.mem_cons_self)))) | (apply Fr.setNew; (first | omega | (simp; omega))))
    · with_reducible repeat (first | exact Blk.new _ _ _ | (apply Blk.newAt rfl; (first | (simp; done) | (simp; omega))) | assumption | exact h.q | apply Blk.drew | apply Blk.drewN | apply Blk.alloc | (apply Blk.off; (first | assumption | omega)) | (apply Blk.put; omega) | (apply Blk.put0; omega) | apply Blk.same)
    · apply Blk.cast
      · with_reducible repeat (first | exact Blk.new _ _ _ | (apply Blk.newAt rfl; (first | (simp; done) | (simp; omega))) | assumption | exact h.n | apply Blk.drew | apply Blk.drewN | apply Blk.alloc | (apply Blk.off; (first | assumption | omega)) | (apply Blk.put; omega) | (apply Blk.put0; omega) | apply Blk.same)
      refine grid_congr fun a b _ hb => ?_
      by_cases e0 : a = n
      · subst e0; rcases (show b = 0 ∨ b = 1 ∨ b = 2 by omega) with rfl | rfl | rfl <;> simp [linkC, updL]
      by_cases e_p : a = p
      · subst e_p; rcases (show b = 0 ∨ b = 1 ∨ b = 2 by omega) with rfl | rfl | rfl <;> simp [linkC, updL, e0, *]
      simp [linkC, updL, e0, e_p]
    · apply Blk.cast
      · with_reducible repeat (first | exact Blk.new _ _ _ | (apply Blk.newAt rfl; (first | (simp; done) | (simp; omega))) | assumption | exact h.e | apply Blk.drew | apply Blk.drewN | apply Blk.alloc | (apply Blk.off; (first | assumption | omega)) | (apply Blk.put; omega) | (apply Blk.put0; omega) | apply Blk.same)
      refine grid_congr fun a b _ hb => ?_
      by_cases e : a = i
      · subst e; rcases (show b = 0 ∨ b = 1 ∨ b = 2 by omega) with rfl | rfl | rfl <;> simp [endsC, updE]
      · simp [endsC, updE, e]

set_option maxHeartbeats 800000 in
theorem remove_01 (w : World) (bq bn be N K : Nat) (nd : Nat → Link) (en : Nat → Ends) (h : RepQ w bq bn be N K nd en) (i n q : Nat) (hi : i < K) (hn : n < N) (hq : q < N) (hqn : q ≠ n)
    (hl : nd n = ⟨-1, (q : Int), i⟩) (hc : 0 ≤ (en i).n ∧ (en i).n ≤ 1000) :
    Calls Try.prog 137 #[.pointer (some ⟨bq, 0, none⟩), .int .i64 n] w fun e w' => e = .returned (.tuple #[.int .i64 i, .bool true]) ∧ Fr [bn, be] w w' ∧ RepQ w' bq bn be N K (updL (updL nd q { nd q with ahead := -1 }) n ⟨-1, -1, -1⟩) (updE en i ⟨q, (en i).last, (en i).n - 1⟩) := by
  have hQ1 : (((nd n).queue : Int) == -1) = false := by rw [hl]; first | (simp; done) | (simp; omega)
  have hqv : (nd n).queue = i := by rw [hl]
  have n1 := h.n.at0 hn (show 0 < 3 by omega)
  have n2 := h.n.at hn (show 1 < 3 by omega)
  have n3 := h.n.at hn (show 2 < 3 by omega)
  have e1 := h.e.at0 hi (show 0 < 3 by omega)
  have e2 := h.e.at hi (show 1 < 3 by omega)
  have e3 := h.e.at hi (show 2 < 3 by omega)
  simp only [linkC, hl] at n1 n2 n3
  simp only [endsC] at e1 e2 e3
  have q1 := h.n.at0 hq (show 0 < 3 by omega)
  have q2 := h.n.at hq (show 1 < 3 by omega)
  simp only [linkC] at q1 q2
  have xq1 := h.n.frozen (q * 3)
  have xq2 := h.n.frozen (q * 3 + 1)
  have f1 := h.n.frozen (n * 3)
  have f2 := h.n.frozen (n * 3 + 1)
  have f3 := h.n.frozen (n * 3 + 2)
  have g1 := h.e.frozen (i * 3)
  have g2 := h.e.frozen (i * 3 + 1)
  have g3 := h.e.frozen (i * 3 + 2)
  have q1 := h.q.cell 0
  have d1 := h.ne1
  have d2 := h.ne2
  have d3 := h.ne3
  have l0 := h.q.lt
  have l1 := h.n.lt
  have l2 := h.e.lt
  have b1 := h.N2
  have HL := Lib.hid hl
  have HQ := Lib.hid hqv
  clear hl hqv
  have hmf : ∀ (fn : Fn) (first cap : Array Value) (w : World), (Instr.makeFunc fn first cap).run Try.prog w = .ok (.func fn first cap) w := fun _ _ _ _ => rfl
  go_enter Try.func137, Try.ntmps137
  go_wp2_with fail
  refine (of_in w bq bn be N K nd en h n hn hQ1).mono ?_
  rw [HQ.out]
  clear hQ1
  rintro e w' ⟨rfl, rfl⟩
  go_wp2_with fail
  go_region_held3 (fun w' => w'.cell? ⟨bn, n * 3, none⟩ = some (.int .i64 (-1)) ∧ w'.cell? ⟨bn, n * 3 + 1, none⟩ = some (.int .i64 ((q : Int))) ∧ w'.cell? ⟨bn, n * 3 + 2, none⟩ = some (.int .i64 i)) (go_keep)
    (first | (go_at_call 136; refine (node_in _ bq bn be N K (by with_reducible repeat (first | exact Blk.new _ _ _ | (apply Blk.newAt rfl; (first | (simp; done) | (simp; omega))) | assumption | exact h.q | apply Blk.drew | apply Blk.drewN | apply Blk.alloc | (apply Blk.off; (first | assumption | omega)) | (apply Blk.put; omega) | (apply Blk.put0; omega) | apply Blk.same)) h.N2 n hn).mono ?_; rintro e w' ⟨rfl, rfl⟩) | (go_at_call 135; refine (queue_in _ bq bn be N K (by with_reducible repeat (first | exact Blk.new _ _ _ | (apply Blk.newAt rfl; (first | (simp; done) | (simp; omega))) | assumption | exact h.q | apply Blk.drew | apply Blk.drewN | apply Blk.alloc | (apply Blk.off; (first | assumption | omega)) | (apply Blk.put; omega) | (apply Blk.put0; omega) | apply Blk.same)) h.K2 i hi).mono ?_; rintro e w' ⟨rfl, rfl⟩))
  all_goals
    skip
    go_wp2_with fail
    refine (node_out _ bq bn be N K (by with_reducible repeat (first | exact Blk.new _ _ _ | (apply Blk.newAt rfl; (first | (simp; done) | (simp; omega))) | assumption | exact h.q | apply Blk.drew | apply Blk.drewN | apply Blk.alloc | (apply Blk.off; (first | assumption | omega)) | (apply Blk.put; omega) | (apply Blk.put0; omega) | apply Blk.same)) h.N2 (-1) (by omega)).mono ?_
    rintro e w' ⟨rfl, rfl⟩
    go_wp2_with fail
    refine (node_in _ bq bn be N K (by with_reducible repeat (first | exact Blk.new _ _ _ | (apply Blk.newAt rfl; (first | (simp; done) | (simp; omega))) | assumption | exact h.q | apply Blk.drew | apply Blk.drewN | apply Blk.alloc | (apply Blk.off; (first | assumption | omega)) | (apply Blk.put; omega) | (apply Blk.put0; omega) | apply Blk.same)) h.N2 q (by omega)).mono ?_
    rintro e w' ⟨rfl, rfl⟩
    go_wp2_with fail
    go_region_held3 (fun w' => w'.cell? ⟨bq, 0, none⟩ = some (.slice (some ⟨bn, 0, none⟩) N N)) ((refine (Blk.cell (?_ : BlkQ _ bq bn be N K) 0).trans rfl; (with_reducible repeat (first | exact Blk.new _ _ _ | (apply Blk.newAt rfl; (first | (simp; done) | (simp; omega))) | assumption | exact h.q | apply Blk.drew | apply Blk.drewN | apply Blk.alloc | (apply Blk.off; (first | assumption | omega)) | (apply Blk.put; omega) | (apply Blk.put0; omega) | apply Blk.same))))
      (first | (go_at_call 130; refine (loose_any _).mono ?_; rintro e w' ⟨rfl, rfl⟩))
    go_wp2_with fail
    go_ret2
    refine ⟨rfl, ?_, ?_, ?_, ?_, h.N1, h.N2, h.K1, h.K2⟩
    · with_reducible repeat (first | exact Fr.refl _ _ | assumption | apply Fr.drew | apply Fr.drewN | apply Fr.alloc | (apply Fr.step; assumption; (intro _ h; (first | exact h | (focus (simp_all; done))))) | (apply Fr.setIn; (first | exact List.mem_cons_self | exact List.mem_cons_of_mem _ List.mem_cons_self | exact List.mem_cons_of_mem _ (List.mem_cons_of_mem _ List.mem_cons_self) | exact List.mem_cons_of_mem _ (List.mem_cons_of_mem _ (List.mem_cons_of_mem _ List.mem_cons_self)))) | (apply Fr.setNew; (first | omega | (simp; omega))))
    · with_reducible repeat (first | exact Blk.new _ _ _ | (apply Blk.newAt rfl; (first | (simp; done) | (simp; omega))) | assumption | exact h.q | apply Blk.drew | apply Blk.drewN | apply Blk.alloc | (apply Blk.off; (first | assumption | omega)) | (apply Blk.put; omega) | (apply Blk.put0; omega) | apply Blk.same)
    · apply Blk.cast
      · with_reducible repeat (first | exact Blk.new _ _ _ | (apply Blk.newAt rfl; (first | (simp; done) | (simp; omega))) | assumption | exact h.n | apply Blk.drew | apply Blk.drewN | apply Blk.alloc | (apply Blk.off; (first | assumption | omega)) | (apply Blk.put; omega) | (apply Blk.put0; omega) | apply Blk.same)
      refine grid_congr fun a b _ hb => ?_
      by_cases e0 : a = n
      · subst e0; rcases (show b = 0 ∨ b = 1 ∨ b = 2 by omega) with rfl | rfl | rfl <;> simp [linkC, updL]
      by_cases e_q : a = q
      · subst e_q; rcases (show b = 0 ∨ b = 1 ∨ b = 2 by omega) with rfl | rfl | rfl <;> simp [linkC, updL, e0, *]
      simp [linkC, updL, e0, e_q]
    · apply Blk.cast
      · with_reducible repeat (first | exact Blk.new _ _ _ | (apply Blk.newAt rfl; (first | (simp; done) | (simp; omega))) | assumption | exact h.e | apply Blk.drew | apply Blk.drewN | apply Blk.alloc | (apply Blk.off; (first | assumption | omega)) | (apply Blk.put; omega) | (apply Blk.put0; omega) | apply Blk.same)
      refine grid_congr fun a b _ hb => ?_
      by_cases e : a = i
      · subst e; rcases (show b = 0 ∨ b = 1 ∨ b = 2 by omega) with rfl | rfl | rfl <;> simp [endsC, updE]
      · simp [endsC, updE, e]

set_option maxHeartbeats 800000 in
theorem remove_11 (w : World) (bq bn be N K : Nat) (nd : Nat → Link) (en : Nat → Ends) (h : RepQ w bq bn be N K nd en) (i n p q : Nat) (hi : i < K) (hn : n < N) (hp : p < N) (hpn : p ≠ n) (hq : q < N) (hqn : q ≠ n) (hpq : p ≠ q)
    (hl : nd n = ⟨(p : Int), (q : Int), i⟩) (hc : 0 ≤ (en i).n ∧ (en i).n ≤ 1000) :
    Calls Try.prog 137 #[.pointer (some ⟨bq, 0, none⟩), .int .i64 n] w fun e w' => e = .returned (.tuple #[.int .i64 i, .bool true]) ∧ Fr [bn, be] w w' ∧ RepQ w' bq bn be N K (updL (updL (updL nd p { nd p with behind := q }) q { nd q with ahead := p }) n ⟨-1, -1, -1⟩) (updE en i ⟨(en i).first, (en i).last, (en i).n - 1⟩) := by
  have hQ1 : (((nd n).queue : Int) == -1) = false := by rw [hl]; first | (simp; done) | (simp; omega)
  have hqv : (nd n).queue = i := by rw [hl]
  have n1 := h.n.at0 hn (show 0 < 3 by omega)
  have n2 := h.n.at hn (show 1 < 3 by omega)
  have n3 := h.n.at hn (show 2 < 3 by omega)
  have e1 := h.e.at0 hi (show 0 < 3 by omega)
  have e2 := h.e.at hi (show 1 < 3 by omega)
  have e3 := h.e.at hi (show 2 < 3 by omega)
  simp only [linkC, hl] at n1 n2 n3
  simp only [endsC] at e1 e2 e3
  have p1 := h.n.at0 hp (show 0 < 3 by omega)
  have p2 := h.n.at hp (show 1 < 3 by omega)
  simp only [linkC] at p1 p2
  have xp1 := h.n.frozen (p * 3)
  have xp2 := h.n.frozen (p * 3 + 1)
  have qq1 := h.n.at0 hq (show 0 < 3 by omega)
  have qq2 := h.n.at hq (show 1 < 3 by omega)
  simp only [linkC] at qq1 qq2
  have xq1 := h.n.frozen (q * 3)
  have xq2 := h.n.frozen (q * 3 + 1)
  have f1 := h.n.frozen (n * 3)
  have f2 := h.n.frozen (n * 3 + 1)
  have f3 := h.n.frozen (n * 3 + 2)
  have g1 := h.e.frozen (i * 3)
  have g2 := h.e.frozen (i * 3 + 1)
  have g3 := h.e.frozen (i * 3 + 2)
  have q1 := h.q.cell 0
  have d1 := h.ne1
  have d2 := h.ne2
  have d3 := h.ne3
  have l0 := h.q.lt
  have l1 := h.n.lt
  have l2 := h.e.lt
  have b1 := h.N2
  have HL := Lib.hid hl
  have HQ := Lib.hid hqv
  clear hl hqv
  have hmf : ∀ (fn : Fn) (first cap : Array Value) (w : World), (Instr.makeFunc fn first cap).run Try.prog w = .ok (.func fn first cap) w := fun _ _ _ _ => rfl
  go_enter Try.func137, Try.ntmps137
  go_wp2_with fail
  refine (of_in w bq bn be N K nd en h n hn hQ1).mono ?_
  rw [HQ.out]
  clear hQ1
  rintro e w' ⟨rfl, rfl⟩
  go_wp2_with fail
  go_region_held3 (fun w' => w'.cell? ⟨bn, n * 3, none⟩ = some (.int .i64 ((p : Int))) ∧ w'.cell? ⟨bn, n * 3 + 1, none⟩ = some (.int .i64 ((q : Int))) ∧ w'.cell? ⟨bn, n * 3 + 2, none⟩ = some (.int .i64 i)) (go_keep)
    (first | (go_at_call 136; refine (node_in _ bq bn be N K (by with_reducible repeat (first | exact Blk.new _ _ _ | (apply Blk.newAt rfl; (first | (simp; done) | (simp; omega))) | assumption | exact h.q | apply Blk.drew | apply Blk.drewN | apply Blk.alloc | (apply Blk.off; (first | assumption | omega)) | (apply Blk.put; omega) | (apply Blk.put0; omega) | apply Blk.same)) h.N2 n hn).mono ?_; rintro e w' ⟨rfl, rfl⟩) | (go_at_call 135; refine (queue_in _ bq bn be N K (by with_reducible repeat (first | exact Blk.new _ _ _ | (apply Blk.newAt rfl; (first | (simp; done) | (simp; omega))) | assumption | exact h.q | apply Blk.drew | apply Blk.drewN | apply Blk.alloc | (apply Blk.off; (first | assumption | omega)) | (apply Blk.put; omega) | (apply Blk.put0; omega) | apply Blk.same)) h.K2 i hi).mono ?_; rintro e w' ⟨rfl, rfl⟩))
  all_goals
    skip
    go_wp2_with fail
    refine (node_in _ bq bn be N K (by with_reducible repeat (first | exact Blk.new _ _ _ | (apply Blk.newAt rfl; (first | (simp; done) | (simp; omega))) | assumption | exact h.q | apply Blk.drew | apply Blk.drewN | apply Blk.alloc | (apply Blk.off; (first | assumption | omega)) | (apply Blk.put; omega) | (apply Blk.put0; omega) | apply Blk.same)) h.N2 p (by omega)).mono ?_
    rintro e w' ⟨rfl, rfl⟩
    go_wp2_with fail
    refine (node_in _ bq bn be N K (by with_reducible repeat (first | exact Blk.new _ _ _ | (apply Blk.newAt rfl; (first | (simp; done) | (simp; omega))) | assumption | exact h.q | apply Blk.drew | apply Blk.drewN | apply Blk.alloc | (apply Blk.off; (first | assumption | omega)) | (apply Blk.put; omega) | (apply Blk.put0; omega) | apply Blk.same)) h.N2 q (by omega)).mono ?_
    rintro e w' ⟨rfl, rfl⟩
    go_wp2_with fail
    go_region_held3 (fun w' => w'.cell? ⟨bq, 0, none⟩ = some (.slice (some ⟨bn, 0, none⟩) N N)) ((refine (Blk.cell (?_ : BlkQ _ bq bn be N K) 0).trans rfl; (with_reducible repeat (first | exact Blk.new _ _ _ | (apply Blk.newAt rfl; (first | (simp; done) | (simp; omega))) | assumption | exact h.q | apply Blk.drew | apply Blk.drewN | apply Blk.alloc | (apply Blk.off; (first | assumption | omega)) | (apply Blk.put; omega) | (apply Blk.put0; omega) | apply Blk.same))))
      (first | (go_at_call 130; refine (loose_any _).mono ?_; rintro e w' ⟨rfl, rfl⟩))
    go_wp2_with fail
    go_ret2
    refine ⟨rfl, ?_, ?_, ?_, ?_, h.N1, h.N2, h.K1, h.K2⟩
    · with_reducible repeat (first | exact Fr.refl _ _ | assumption | apply Fr.drew | apply Fr.drewN | apply Fr.alloc | (apply Fr.step; assumption; (intro _ h; (first | exact h | (focus (simp_all; done))))) | (apply Fr.setIn; (first | exact List.mem_cons_self | exact List.mem_cons_of_mem _ List.mem_cons_self | exact List.mem_cons_of_mem _ (List.mem_cons_of_mem _ List.mem_cons_self) | exact List.mem_cons_of_mem _ (List.mem_cons_of_mem _ (List.mem_cons_of_mem _ List.mem_cons_self)))) | (apply Fr.setNew; (first | omega | (simp; omega))))
    · with_reducible repeat (first | exact Blk.new _ _ _ | (apply Blk.newAt rfl; (first | (simp; done) | (simp; omega))) | assumption | exact h.q | apply Blk.drew | apply Blk.drewN | apply Blk.alloc | (apply Blk.off; (first | assumption | omega)) | (apply Blk.put; omega) | (apply Blk.put0; omega) | apply Blk.same)
    · apply Blk.cast
      · with_reducible repeat (first | exact Blk.new _ _ _ | (apply Blk.newAt rfl; (first | (simp; done) | (simp; omega))) | assumption | exact h.n | apply Blk.drew | apply Blk.drewN | apply Blk.alloc | (apply Blk.off; (first | assumption | omega)) | (apply Blk.put; omega) | (apply Blk.put0; omega) | apply Blk.same)
      refine grid_congr fun a b _ hb => ?_
      by_cases e0 : a = n
      · subst e0; rcases (show b = 0 ∨ b = 1 ∨ b = 2 by omega) with rfl | rfl | rfl <;> simp [linkC, updL]
      by_cases e_p : a = p
      · subst e_p; rcases (show b = 0 ∨ b = 1 ∨ b = 2 by omega) with rfl | rfl | rfl <;> simp [linkC, updL, e0, *]
      by_cases e_q : a = q
      · subst e_q; rcases (show b = 0 ∨ b = 1 ∨ b = 2 by omega) with rfl | rfl | rfl <;> simp [linkC, updL, e0, e_p, *]
      simp [linkC, updL, e0, e_p, e_q]
    · apply Blk.cast
      · with_reducible repeat (first | exact Blk.new _ _ _ | (apply Blk.newAt rfl; (first | (simp; done) | (simp; omega))) | assumption | exact h.e | apply Blk.drew | apply Blk.drewN | apply Blk.alloc | (apply Blk.off; (first | assumption | omega)) | (apply Blk.put; omega) | (apply Blk.put0; omega) | apply Blk.same)
      refine grid_congr fun a b _ hb => ?_
      by_cases e : a = i
      · subst e; rcases (show b = 0 ∨ b = 1 ∨ b = 2 by omega) with rfl | rfl | rfl <;> simp [endsC, updE]
      · simp [endsC, updE, e]
end Go.Proofs.Ytkimldeagndgjaa

/- The queues' plain law: lists of nodes, and links that stand for them. No program's step stands in this text. -/
namespace Go.Proofs.Ytkimldeagndgjaa
set_option linter.unusedVariables false
set_option linter.unusedSimpArgs false

def ptr : Option Nat → Int
  | none => -1
  | some x => x

def updQ (L : Nat → List Nat) (i : Nat) (l : List Nat) : Nat → List Nat := fun j => if j = i then l else L j

structure QInv (N K : Nat) (L : Nat → List Nat) (nd : Nat → Link) (en : Nat → Ends) : Prop where
  een : ∀ i, i < K → en i = ⟨ptr (L i).head?, ptr (L i).getLast?, ((L i).length : Int)⟩
  lnk : ∀ i, i < K → ∀ (A : List Nat) (x : Nat) (B : List Nat), L i = A ++ x :: B → x < N ∧ nd x = ⟨ptr A.getLast?, ptr B.head?, (i : Int)⟩
  free : ∀ x, x < N → (∀ i, i < K → x ∉ L i) → nd x = ⟨-1, -1, -1⟩
  nodup : ∀ i, i < K → (L i).Nodup

section
variable {N K : Nat} {L : Nat → List Nat} {nd : Nat → Link} {en : Nat → Ends}

theorem QInv.queue (h : QInv N K L nd en) {i x : Nat} (hi : i < K) (hx : x ∈ L i) : x < N ∧ (nd x).queue = i := by
  obtain ⟨A, B, e⟩ := List.append_of_mem hx
  obtain ⟨h1, h2⟩ := h.lnk i hi A x B e
  exact ⟨h1, by rw [h2]⟩

theorem QInv.apart (h : QInv N K L nd en) {i j x y : Nat} (hi : i < K) (hj : j < K) (hx : x ∈ L i) (hy : y ∈ L j) (hij : i ≠ j) : x ≠ y := by
  rintro rfl
  have h1 := (h.queue hi hx).2
  have h2 := (h.queue hj hy).2
  rw [h1] at h2
  omega

theorem QInv.new (N K : Nat) : QInv N K (fun _ => []) (fun _ => ⟨-1, -1, -1⟩) (fun _ => ⟨-1, -1, 0⟩) :=
  ⟨fun _ _ => rfl, fun _ _ A x B (h : [] = A ++ x :: B) => by simp at h, fun _ _ _ => rfl, fun _ _ => List.nodup_nil⟩

theorem nodup_lt {N : Nat} : ∀ (l : List Nat), l.Nodup → (∀ x ∈ l, x < N) → l.length ≤ N := by
  induction N with
  | zero =>
    intro l _ h
    cases l with
    | nil => exact Nat.le_refl _
    | cons x l => have := h x (by simp); omega
  | succ N ih =>
    intro l hn h
    have h1 := ih (l.filter (fun x => x != N)) (hn.filter _) (fun x hx => by
      simp only [List.mem_filter, bne_iff_ne] at hx
      have := h x hx.1
      omega)
    have h2 : l.length ≤ (l.filter (fun x => x != N)).length + 1 := by
      clear ih h h1
      induction l with
      | nil => simp
      | cons x l ih =>
        have hn' := List.nodup_cons.1 hn
        by_cases e : x = N
        · subst e
          have : l.filter (fun y => y != x) = l := List.filter_eq_self.2 (fun y hy => by
            simp only [bne_iff_ne]
            rintro rfl
            exact hn'.1 hy)
          simp [this]
        · have := ih hn'.2
          simp [e]; omega
    omega

theorem QInv.len (h : QInv N K L nd en) {i : Nat} (hi : i < K) : (L i).length ≤ N := nodup_lt _ (h.nodup i hi) (fun x hx => (h.queue hi hx).1)

theorem last_app (A B : List Nat) (b : Nat) : (A ++ b :: B).getLast? = (b :: B).getLast? := by
  rw [List.getLast?_append, List.getLast?_eq_some_getLast (List.cons_ne_nil b B)]; rfl
theorem last_app2 (A B : List Nat) (x b : Nat) : (A ++ x :: b :: B).getLast? = (b :: B).getLast? := by
  rw [last_app, List.getLast?_cons_cons]
theorem getLast_mem {l : List Nat} {m : Nat} (h : l.getLast? = some m) : m ∈ l := List.mem_of_getLast? h
theorem head_mem {l : List Nat} {m : Nat} (h : l.head? = some m) : m ∈ l := List.mem_of_head? h

theorem concat_split {l A B : List Nat} {n x : Nat} (e : l ++ [n] = A ++ x :: B) : (B = [] ∧ x = n ∧ A = l) ∨ ∃ B', B = B' ++ [n] ∧ l = A ++ x :: B' := by
  rcases List.eq_nil_or_concat B with rfl | ⟨B', b, rfl⟩
  · have := List.append_inj' e rfl
    simp at this
    exact .inl ⟨rfl, this.2.symm, this.1.symm⟩
  · rw [List.concat_eq_append] at e ⊢
    have e' : l ++ [n] = (A ++ x :: B') ++ [b] := by rw [e]; simp
    have := List.append_inj' e' rfl
    simp at this
    exact .inr ⟨B', by rw [this.2], this.1⟩

theorem inv_push1 (h : QInv N K L nd en) {i n : Nat} (hi : i < K) (hn : n < N) (hf : ∀ j, j < K → n ∉ L j) (he : L i = []) :
    QInv N K (updQ L i (L i ++ [n])) (updL nd n ⟨-1, -1, i⟩) (updE en i ⟨n, n, (en i).n + 1⟩) := by
  refine ⟨fun j hj => ?_, fun j hj A x B e => ?_, fun x hx hno => ?_, fun j hj => ?_⟩
  · by_cases c : j = i
    · subst c
      have := h.een j hj
      simp [updQ, updE, he, ptr, this]
    · simp [updQ, updE, c, h.een j hj]
  · by_cases c : j = i
    · subst c
      simp only [updQ, if_pos] at e
      rw [he] at e
      rcases concat_split e with ⟨rfl, rfl, rfl⟩ | ⟨B', _, h2⟩
      · exact ⟨hn, by simp [updL, ptr]⟩
      · simp at h2
    · simp only [updQ, if_neg c] at e
      obtain ⟨h1, h2⟩ := h.lnk j hj A x B e
      have hx : x ≠ n := by rintro rfl; exact hf j hj (by rw [e]; simp)
      exact ⟨h1, by simp [updL, hx, h2]⟩
  · have hxn : x ≠ n := by rintro rfl; exact hno i hi (by simp [updQ])
    simp only [updL, if_neg hxn]
    refine h.free x hx (fun j hj hm => hno j hj ?_)
    by_cases c : j = i
    · rw [c, he] at hm; simp at hm
    · simp [updQ, c, hm]
  · by_cases c : j = i
    · subst c; simp [updQ, he]
    · simp [updQ, c, h.nodup j hj]

theorem inv_push2 (h : QInv N K L nd en) {i n m : Nat} (hi : i < K) (hn : n < N) (hf : ∀ j, j < K → n ∉ L j) (hl : (L i).getLast? = some m) :
    QInv N K (updQ L i (L i ++ [n])) (updL (updL nd n ⟨m, -1, i⟩) m { nd m with behind := n }) (updE en i ⟨(en i).first, n, (en i).n + 1⟩) := by
  have hm := getLast_mem hl
  have hmn : m ≠ n := by rintro rfl; exact hf i hi hm
  have hne : L i ≠ [] := by intro e; rw [e] at hl; simp at hl
  refine ⟨fun j hj => ?_, fun j hj A x B e => ?_, fun x hx hno => ?_, fun j hj => ?_⟩
  · by_cases c : j = i
    · subst c
      have := h.een j hj
      have e1 : (L j ++ [n]).head? = (L j).head? := by
        cases hc : L j with
        | nil => exact absurd hc hne
        | cons a l => simp
      simp [updQ, updE, ptr, this, e1]
    · simp [updQ, updE, c, h.een j hj]
  · by_cases c : j = i
    · subst c
      simp only [updQ, if_pos] at e
      rcases concat_split e with ⟨rfl, rfl, rfl⟩ | ⟨B', rfl, h2⟩
      · exact ⟨hn, by simp [updL, Ne.symm hmn, hl, ptr]⟩
      · obtain ⟨h3, h4⟩ := h.lnk j hj A x B' h2
        have hxn : x ≠ n := by rintro rfl; exact hf j hj (by rw [h2]; simp)
        refine ⟨h3, ?_⟩
        cases B' with
        | nil =>
          have : x = m := by rw [h2] at hl; simpa using hl
          subst this
          simp [updL, h4, ptr]
        | cons b B'' =>
          have hxm : x ≠ m := by
            rintro rfl
            have hnd := h.nodup j hj
            rw [h2] at hnd hl
            have hl2 : (b :: B'').getLast? = some x := by
              have e5 : (A ++ x :: b :: B'').getLast? = (b :: B'').getLast? := last_app2 _ _ _ _
              rw [e5] at hl
              exact hl
            have hin := getLast_mem hl2
            have := (List.nodup_append.1 hnd).2.1
            exact (List.nodup_cons.1 this).1 hin
          simp [updL, hxm, hxn, h4]
    · simp only [updQ, if_neg c] at e
      obtain ⟨h1, h2⟩ := h.lnk j hj A x B e
      have hxin : x ∈ L j := by rw [e]; simp
      have hx : x ≠ n := by rintro rfl; exact hf j hj hxin
      have hxm : x ≠ m := h.apart hj hi hxin hm c
      exact ⟨h1, by simp [updL, hx, hxm, h2]⟩
  · have hxn : x ≠ n := by rintro rfl; exact hno i hi (by simp [updQ])
    have hxm : x ≠ m := by rintro rfl; exact hno i hi (by simp [updQ, hm])
    simp only [updL, if_neg hxn, if_neg hxm]
    refine h.free x hx (fun j hj hmm => hno j hj ?_)
    by_cases c : j = i
    · subst c; simp [updQ, hmm]
    · simp [updQ, c, hmm]
  · by_cases c : j = i
    · subst c
      simp only [updQ, if_pos]
      rw [List.nodup_append]
      refine ⟨h.nodup j hj, by simp, fun a ha b hb => ?_⟩
      simp at hb
      subst hb
      rintro rfl
      exact hf j hj ha
    · simp [updQ, c, h.nodup j hj]

/-- The links behind the removal of n, between p and q. -/
def rmN (nd : Nat → Link) (n : Nat) (p q : Option Nat) : Nat → Link := fun x =>
  if x = n then ⟨-1, -1, -1⟩ else ⟨if some x = q then ptr p else (nd x).ahead, if some x = p then ptr q else (nd x).behind, (nd x).queue⟩
def rmE (en : Nat → Ends) (i : Nat) (p q : Option Nat) : Nat → Ends := fun j =>
  if j = i then ⟨if p = none then ptr q else (en i).first, if q = none then ptr p else (en i).last, (en i).n - 1⟩ else en j

theorem inv_remove (h : QInv N K L nd en) {i n : Nat} {A B : List Nat} (hi : i < K) (hs : L i = A ++ n :: B) :
    QInv N K (updQ L i (A ++ B)) (rmN nd n A.getLast? B.head?) (rmE en i A.getLast? B.head?) := by
  have hnd := h.nodup i hi
  have hin : n ∈ L i := by rw [hs]; simp
  rw [hs] at hnd
  obtain ⟨na, nb, nab⟩ := List.nodup_append.1 hnd
  obtain ⟨nnb, nB⟩ := List.nodup_cons.1 nb
  have nnA : n ∉ A := fun hx => nab n hx n (by simp) rfl
  have dAB : ∀ x, x ∈ A → x ∉ B := fun x hx hb => nab x hx x (by simp [hb]) rfl
  have pA : ∀ p, A.getLast? = some p → p ∈ A := fun p hp => getLast_mem hp
  have qB : ∀ q, B.head? = some q → q ∈ B := fun q hq => head_mem hq
  have inL : ∀ x, x ∈ A ∨ x ∈ B → x ∈ L i := by
    intro x hx
    rw [hs]
    rcases hx with hx | hx <;> simp [hx]
  refine ⟨fun j hj => ?_, fun j hj A' x B' e => ?_, fun x hx hno => ?_, fun j hj => ?_⟩
  · by_cases c : j = i
    · subst c
      have he := h.een j hj
      rw [hs] at he
      simp only [updQ, rmE, if_pos]
      cases A with
      | nil =>
        cases B with
        | nil => simp [he, ptr]
        | cons b B => first | (simp [he, ptr]; done) | (simp [he, ptr]; omega)
      | cons a A =>
        cases B with
        | nil => simp [he, ptr]
        | cons b B =>
          have k1 : (a :: A ++ n :: b :: B).getLast? = (a :: A ++ b :: B).getLast? := by rw [last_app2, last_app]
          rw [k1] at he
          simp [he, ptr]; omega
    · simp [updQ, rmE, c, h.een j hj]
  · by_cases c : j = i
    · subst c
      simp only [updQ, if_pos] at e
      have case1 : ∀ C, A' = A ++ C → B = C ++ x :: B' → x < N ∧ rmN nd n A.getLast? B.head? x = ⟨ptr A'.getLast?, ptr B'.head?, (j : Int)⟩ := by
        rintro C rfl hB
        have hx : x ∈ B := by rw [hB]; simp
        obtain ⟨h1, h2⟩ := h.lnk j hj (A ++ n :: C) x B' (by rw [hs, hB]; simp)
        refine ⟨h1, ?_⟩
        have xn : x ≠ n := by rintro rfl; exact nnb hx
        have xp : some x ≠ A.getLast? := fun hp => dAB x (pA x hp.symm) hx
        simp only [rmN, if_neg xn, if_neg xp, h2]
        cases C with
        | nil => simp at hB; simp [hB]
        | cons b C =>
          have xq : some x ≠ B.head? := by
            rw [hB]
            intro hq
            simp at hq
            rw [hB, hq] at nB
            simp at nB
          rw [if_neg xq]
          have e6 : (A ++ n :: b :: C).getLast? = (A ++ b :: C).getLast? := by rw [last_app2, last_app]
          rw [e6]
      rcases List.append_eq_append_iff.1 e with ⟨C, h1, h2⟩ | ⟨C, h1, h2⟩
      · exact case1 C h1 h2
      · cases C with
        | nil => simp at h1 h2; exact case1 [] (by simp [h1]) (by simp [h2])
        | cons y C =>
          simp at h2
          obtain ⟨rfl, rfl⟩ := h2
          obtain ⟨h3, h4⟩ := h.lnk j hj A' x (C ++ n :: B) (by rw [hs, h1]; simp)
          have hx : x ∈ A := by rw [h1]; simp
          refine ⟨h3, ?_⟩
          have xn : x ≠ n := by rintro rfl; exact nnA hx
          have xq : some x ≠ B.head? := fun hq => dAB x hx (qB x hq.symm)
          simp only [rmN, if_neg xn, if_neg xq, h4]
          cases C with
          | nil => simp [h1]
          | cons b C =>
            have xp : some x ≠ A.getLast? := by
              rw [h1]
              intro hp
              have e7 : (A' ++ x :: b :: C).getLast? = (b :: C).getLast? := last_app2 _ _ _ _
              rw [e7] at hp
              have hin2 := getLast_mem hp.symm
              rw [h1] at na
              exact (List.nodup_cons.1 (List.nodup_append.1 na).2.1).1 hin2
            rw [if_neg xp]
            simp
    · simp only [updQ, if_neg c] at e
      obtain ⟨h1, h2⟩ := h.lnk j hj A' x B' e
      have hxin : x ∈ L j := by rw [e]; simp
      have hx : x ≠ n := h.apart hj hi hxin hin c
      have xp : some x ≠ A.getLast? := fun hp => h.apart hj hi hxin (inL x (.inl (pA x hp.symm))) c rfl
      have xq : some x ≠ B.head? := fun hq => h.apart hj hi hxin (inL x (.inr (qB x hq.symm))) c rfl
      exact ⟨h1, by simp [rmN, hx, xp, xq, h2]⟩
  · by_cases xn : x = n
    · simp [rmN, xn]
    · have hnot : ∀ j, j < K → x ∉ L j := by
        intro j hj hm
        refine hno j hj ?_
        by_cases c : j = i
        · subst c
          rw [hs] at hm
          simp [updQ]
          simp [xn] at hm
          first | done | exact hm
        · simp [updQ, c, hm]
      have xp : some x ≠ A.getLast? := fun hp => hnot i hi (inL x (.inl (pA x hp.symm)))
      have xq : some x ≠ B.head? := fun hq => hnot i hi (inL x (.inr (qB x hq.symm)))
      simp only [rmN, if_neg xn, if_neg xp, if_neg xq]
      rw [h.free x hx hnot]
  · by_cases c : j = i
    · subst c
      simp only [updQ, if_pos]
      rw [List.nodup_append]
      exact ⟨na, nB, fun a ha b hb => nab a ha b (by simp [hb])⟩
    · simp [updQ, c, h.nodup j hj]
end
end Go.Proofs.Ytkimldeagndgjaa

/- The queues' New, walked. -/
namespace Go.Proofs.Ytkimldeagndgjaa
set_option linter.unusedVariables false
set_option linter.unusedSimpArgs false
open Go.RowKit

theorem new_no (w : World) (a b : Int) (h : a < 1 ∨ 500 < a ∨ b < 1 ∨ 400 < b) :
    Calls Try.prog 82 #[.int .i64 a, .int .i64 b] w fun e w' => e = .returned (.tuple #[.pointer none, .int .i64 9]) ∧ w = w' := by
  have h' : a < 1 ∨ (1 ≤ a ∧ 500 < a) ∨ (1 ≤ a ∧ a ≤ 500 ∧ b < 1) ∨ (1 ≤ a ∧ a ≤ 500 ∧ 1 ≤ b ∧ 400 < b) := by omega
  clear h
  rcases h' with h | h | h | h
  all_goals
    go_enter Try.func82, Try.ntmps82
    go_wp2_with fail
    go_ret2
    exact ⟨rfl, rfl⟩

theorem info_link : (Try.prog.info? 210).map (fun i => (i.zero, i.size, i.bytes)) = some (some (.agg #[.int .i64 0, .int .i64 0, .int .i64 0]), 3, 24) := by kernel_rfl
theorem info_ends : (Try.prog.info? 213).map (fun i => (i.zero, i.size, i.bytes)) = some (some (.agg #[.int .i64 0, .int .i64 0, .int .i64 0]), 3, 24) := by kernel_rfl

/-- What stands behind the making of the struct. -/
def NewRel (w : World) (N K : Nat) (s6 : Value) (wx : World) : Prop :=
  ∃ bq bn be, w.heap.size ≤ bq ∧ w.heap.size ≤ bn ∧ w.heap.size ≤ be ∧ bq ≠ bn ∧ bq ≠ be ∧ bn ≠ be ∧ s6 = .pointer (some ⟨bq, 0, none⟩) ∧ Fr [] w wx ∧
    BlkQ wx bq bn be N K ∧ Blk wx bn 210 (grid N 3 (linkC fun _ => ⟨0, 0, 0⟩)) ∧ Blk wx be 213 (grid K 3 (endsC fun _ => ⟨0, 0, 0⟩))

/-- Nodes that are loose up to k. -/
def halfL (k : Nat) : Nat → Link := fun i => if i < k then ⟨-1, -1, -1⟩ else ⟨0, 0, 0⟩
def halfE (k : Nat) : Nat → Ends := fun i => if i < k then ⟨-1, -1, 0⟩ else ⟨0, 0, 0⟩

def LoopN (w : World) (bq bn be N K : Nat) (k : Nat) (l : Nat) (wr : World) : Prop :=
  Fr [] w wr ∧ BlkQ wr bq bn be N K ∧ Blk wr bn 210 (grid N 3 (linkC (halfL k))) ∧ Blk wr be 213 (grid K 3 (endsC (halfE l)))

theorem zero_linkC (N : Nat) : (grid N 3 fun _ j => ([.int .i64 0, .int .i64 0, .int .i64 0] : List Value)[j]?.getD default) = grid N 3 (linkC fun _ => ⟨0, 0, 0⟩) :=
  grid_congr fun i j _ hj => by rcases (show j = 0 ∨ j = 1 ∨ j = 2 by omega) with rfl | rfl | rfl <;> rfl
theorem zero_endsC (N : Nat) : (grid N 3 fun _ j => ([.int .i64 0, .int .i64 0, .int .i64 0] : List Value)[j]?.getD default) = grid N 3 (endsC fun _ => ⟨0, 0, 0⟩) :=
  grid_congr fun i j _ hj => by rcases (show j = 0 ∨ j = 1 ∨ j = 2 by omega) with rfl | rfl | rfl <;> rfl

set_option maxHeartbeats 1000000 in
theorem new_ok (w : World) (N K : Nat) (n1 : 1 ≤ N) (n2 : N ≤ 500) (k1 : 1 ≤ K) (k2 : K ≤ 400) :
    Calls Try.prog 82 #[.int .i64 N, .int .i64 K] w fun e w' => ∃ bq bn be, w.heap.size ≤ bq ∧ w.heap.size ≤ bn ∧ w.heap.size ≤ be ∧ e = .returned (.tuple #[.pointer (some ⟨bq, 0, none⟩), .int .i64 0]) ∧ Fr [] w w' ∧
      RepQ w' bq bn be N K (fun _ => ⟨-1, -1, -1⟩) (fun _ => ⟨-1, -1, 0⟩) := by
  obtain ⟨il, hi, hz0, hz1, hz2⟩ := info_parts info_link
  obtain ⟨ie, hie, hez0, hez1, hez2⟩ := info_parts info_ends
  have mk1 := fun w => run_makeGrid (P := Try.prog) Try.underlying205 hi hz0 hz1 (m := 3) rfl (by omega) N (by rw [hz2]; omega) (by omega) w
  have mk2 := fun w => run_makeGrid (P := Try.prog) Try.underlying206 hie hez0 hez1 (m := 3) rfl (by omega) K (by rw [hez2]; omega) (by omega) w
  clear hi hz0 hz1 hz2 hie hez0 hez1 hez2
  go_enter Try.func82, Try.ntmps82
  go_upto_region 3 with fail
  go_cut [6] (fun s6 wx => NewRel w N K s6 wx)
  case first =>
    go_region
    · go_wp2_with fail
      go_meet
      refine ⟨w.heap.size + 1 + 1, w.heap.size, w.heap.size + 1, by omega, by omega, by omega, by omega, by omega, by omega, rfl, ?_, ?_, ?_, ?_⟩
      · with_reducible repeat (first | exact Fr.refl _ _ | assumption | apply Fr.drew | apply Fr.drewN | apply Fr.alloc | (apply Fr.step; assumption; (intro _ h; (first | exact h | (focus (simp_all; done))))) | (apply Fr.setIn; (first | exact List.mem_cons_self | exact List.mem_cons_of_mem _ List.mem_cons_self | exact List.mem_cons_of_mem _ (List.mem_cons_of_mem _ List.mem_cons_self) | exact List.mem_cons_of_mem _ (List.mem_cons_of_mem _ (List.mem_cons_of_mem _ List.mem_cons_self)))) | (apply Fr.setNew; (first | omega | (simp; omega))))
      · with_reducible repeat (first | exact Blk.new _ _ _ | (apply Blk.newAt rfl; (first | (simp; done) | (simp; omega))) | assumption | exact trivial | apply Blk.drew | apply Blk.drewN | apply Blk.alloc | (apply Blk.off; (first | assumption | omega)) | (apply Blk.put; omega) | (apply Blk.put0; omega) | apply Blk.same)
      · rw [← zero_linkC]; with_reducible repeat (first | exact Blk.new _ _ _ | (apply Blk.newAt rfl; (first | (simp; done) | (simp; omega))) | assumption | exact trivial | apply Blk.drew | apply Blk.drewN | apply Blk.alloc | (apply Blk.off; (first | assumption | omega)) | (apply Blk.put; omega) | (apply Blk.put0; omega) | apply Blk.same)
      · rw [← zero_endsC]; with_reducible repeat (first | exact Blk.new _ _ _ | (apply Blk.newAt rfl; (first | (simp; done) | (simp; omega))) | assumption | exact trivial | apply Blk.drew | apply Blk.drewN | apply Blk.alloc | (apply Blk.off; (first | assumption | omega)) | (apply Blk.put; omega) | (apply Blk.put0; omega) | apply Blk.same)
    · go_wp2_with fail
      go_meet
      refine ⟨w.heap.size + 1 + 1, w.heap.size + 1, w.heap.size, by omega, by omega, by omega, by omega, by omega, by omega, rfl, ?_, ?_, ?_, ?_⟩
      · with_reducible repeat (first | exact Fr.refl _ _ | assumption | apply Fr.drew | apply Fr.drewN | apply Fr.alloc | (apply Fr.step; assumption; (intro _ h; (first | exact h | (focus (simp_all; done))))) | (apply Fr.setIn; (first | exact List.mem_cons_self | exact List.mem_cons_of_mem _ List.mem_cons_self | exact List.mem_cons_of_mem _ (List.mem_cons_of_mem _ List.mem_cons_self) | exact List.mem_cons_of_mem _ (List.mem_cons_of_mem _ (List.mem_cons_of_mem _ List.mem_cons_self)))) | (apply Fr.setNew; (first | omega | (simp; omega))))
      · with_reducible repeat (first | exact Blk.new _ _ _ | (apply Blk.newAt rfl; (first | (simp; done) | (simp; omega))) | assumption | exact trivial | apply Blk.drew | apply Blk.drewN | apply Blk.alloc | (apply Blk.off; (first | assumption | omega)) | (apply Blk.put; omega) | (apply Blk.put0; omega) | apply Blk.same)
      · rw [← zero_linkC]; with_reducible repeat (first | exact Blk.new _ _ _ | (apply Blk.newAt rfl; (first | (simp; done) | (simp; omega))) | assumption | exact trivial | apply Blk.drew | apply Blk.drewN | apply Blk.alloc | (apply Blk.off; (first | assumption | omega)) | (apply Blk.put; omega) | (apply Blk.put0; omega) | apply Blk.same)
      · rw [← zero_endsC]; with_reducible repeat (first | exact Blk.new _ _ _ | (apply Blk.newAt rfl; (first | (simp; done) | (simp; omega))) | assumption | exact trivial | apply Blk.drew | apply Blk.drewN | apply Blk.alloc | (apply Blk.off; (first | assumption | omega)) | (apply Blk.put; omega) | (apply Blk.put0; omega) | apply Blk.same)
  case rest =>
    obtain ⟨bq, bn, be, g1, g2, g3, d1, d2, d3, rfl, F0, B1, B2, B3⟩ := hcut
    have c1 := B1.cell
    clear mk1 mk2
    go_wp2_with fail
    go_loopw [34, 7] (fun s34 _ wr => ∃ k : Nat, k ≤ N ∧ s34 = .int .i64 k ∧ LoopN w bq bn be N K k 0 wr) (fun s34 _ _ => N - (intOf s34).toNat)
    case atStart => exact ⟨0, by omega, rfl, F0, B1, B2, B3⟩
    case round =>
      obtain ⟨k, hk, rfl, F1, C1, C2, C3⟩ := hrel
      have c1 := C1.cell
      have c2 := C2.frozen
      have l2 := C2.lt
      by_cases hlt : k < N
      · have a0 := C2.at0 hlt (show 0 < 3 by omega)
        have a1 := C2.at hlt (show 1 < 3 by omega)
        have a2 := C2.at hlt (show 2 < 3 by omega)
        go_wp2_with fail
        go_region_held3 (fun w' => w'.cell? ⟨bq, 0, none⟩ = some (.slice (some ⟨bn, 0, none⟩) N N)) ((refine (Blk.cell (?_ : BlkQ _ bq bn be N K) 0).trans rfl; (with_reducible repeat (first | exact Blk.new _ _ _ | (apply Blk.newAt rfl; (first | (simp; done) | (simp; omega))) | assumption | exact C1 | apply Blk.drew | apply Blk.drewN | apply Blk.alloc | (apply Blk.off; (first | assumption | omega)) | (apply Blk.put; omega) | (apply Blk.put0; omega) | apply Blk.same))))
          (first | (go_at_call 130; refine (loose_any _).mono ?_; rintro e w' ⟨rfl, rfl⟩))
        go_wp2_with fail
        go_roundw
        case rel =>
          refine ⟨k + 1, by omega, by simp, ?_, ?_, ?_, ?_⟩
          · have l3 := F1.size
            with_reducible repeat (first | exact Fr.refl _ _ | assumption | apply Fr.drew | apply Fr.drewN | apply Fr.alloc | (apply Fr.step; assumption; (intro _ h; (first | exact h | (focus (simp_all; done))))) | (apply Fr.setIn; (first | exact List.mem_cons_self | exact List.mem_cons_of_mem _ List.mem_cons_self | exact List.mem_cons_of_mem _ (List.mem_cons_of_mem _ List.mem_cons_self) | exact List.mem_cons_of_mem _ (List.mem_cons_of_mem _ (List.mem_cons_of_mem _ List.mem_cons_self)))) | (apply Fr.setNew; (first | omega | (simp; omega))))
          · with_reducible repeat (first | exact Blk.new _ _ _ | (apply Blk.newAt rfl; (first | (simp; done) | (simp; omega))) | assumption | exact C1 | apply Blk.drew | apply Blk.drewN | apply Blk.alloc | (apply Blk.off; (first | assumption | omega)) | (apply Blk.put; omega) | (apply Blk.put0; omega) | apply Blk.same)
          · apply Blk.cast
            · with_reducible repeat (first | exact Blk.new _ _ _ | (apply Blk.newAt rfl; (first | (simp; done) | (simp; omega))) | assumption | exact C2 | apply Blk.drew | apply Blk.drewN | apply Blk.alloc | (apply Blk.off; (first | assumption | omega)) | (apply Blk.put; omega) | (apply Blk.put0; omega) | apply Blk.same)
            refine grid_congr fun a b _ hb => ?_
            by_cases e : a = k
            · subst e; rcases (show b = 0 ∨ b = 1 ∨ b = 2 by omega) with rfl | rfl | rfl <;> simp [linkC, halfL]
            · have : (a < k + 1) ↔ a < k := by omega
              simp [linkC, halfL, e, this]
          · with_reducible repeat (first | exact Blk.new _ _ _ | (apply Blk.newAt rfl; (first | (simp; done) | (simp; omega))) | assumption | exact C3 | apply Blk.drew | apply Blk.drewN | apply Blk.alloc | (apply Blk.off; (first | assumption | omega)) | (apply Blk.put; omega) | (apply Blk.put0; omega) | apply Blk.same)
        case measure => simp [intOf]; omega
      · obtain rfl : k = N := by omega
        clear F0 B1 B2 B3
        go_wp2_with fail
        obtain ⟨wo, hwo⟩ : ∃ wo : World, wo = wr := ⟨_, rfl⟩
        subst hwo
        go_loopw [50, 8] (fun s50 _ wr => ∃ l : Nat, l ≤ K ∧ s50 = .int .i64 l ∧ LoopN w bq bn be k K k l wr) (fun s50 _ _ => K - (intOf s50).toNat)
        case atStart => exact ⟨0, by omega, rfl, F1, C1, C2, C3⟩
        case round =>
          obtain ⟨l, hl, rfl, F1, D1, D2, D3⟩ := hrel
          clear c1 c2 C1 C2 C3
          have c1 := D1.cell
          have c2 := D3.frozen
          have l2 := D3.lt
          by_cases hlt2 : l < K
          · have a0 := D3.at0 hlt2 (show 0 < 3 by omega)
            have a1 := D3.at hlt2 (show 1 < 3 by omega)
            have a2 := D3.at hlt2 (show 2 < 3 by omega)
            go_wp2_with fail
            go_region_held3 (fun w' => w'.cell? ⟨bq, 1, none⟩ = some (.slice (some ⟨be, 0, none⟩) K K)) ((refine (Blk.cell (?_ : BlkQ _ bq bn be k K) 1).trans rfl; (with_reducible repeat (first | exact Blk.new _ _ _ | (apply Blk.newAt rfl; (first | (simp; done) | (simp; omega))) | assumption | exact D1 | apply Blk.drew | apply Blk.drewN | apply Blk.alloc | (apply Blk.off; (first | assumption | omega)) | (apply Blk.put; omega) | (apply Blk.put0; omega) | apply Blk.same))))
              (first | (go_at_call 131; refine (empty_any _).mono ?_; rintro e w' ⟨rfl, rfl⟩))
            go_wp2_with fail
            go_roundw
            case rel =>
              refine ⟨l + 1, by omega, by simp, ?_, ?_, ?_, ?_⟩
              · have l3 := F1.size
                with_reducible repeat (first | exact Fr.refl _ _ | assumption | apply Fr.drew | apply Fr.drewN | apply Fr.alloc | (apply Fr.step; assumption; (intro _ h; (first | exact h | (focus (simp_all; done))))) | (apply Fr.setIn; (first | exact List.mem_cons_self | exact List.mem_cons_of_mem _ List.mem_cons_self | exact List.mem_cons_of_mem _ (List.mem_cons_of_mem _ List.mem_cons_self) | exact List.mem_cons_of_mem _ (List.mem_cons_of_mem _ (List.mem_cons_of_mem _ List.mem_cons_self)))) | (apply Fr.setNew; (first | omega | (simp; omega))))
              · with_reducible repeat (first | exact Blk.new _ _ _ | (apply Blk.newAt rfl; (first | (simp; done) | (simp; omega))) | assumption | exact D1 | apply Blk.drew | apply Blk.drewN | apply Blk.alloc | (apply Blk.off; (first | assumption | omega)) | (apply Blk.put; omega) | (apply Blk.put0; omega) | apply Blk.same)
              · with_reducible repeat (first | exact Blk.new _ _ _ | (apply Blk.newAt rfl; (first | (simp; done) | (simp; omega))) | assumption | exact D2 | apply Blk.drew | apply Blk.drewN | apply Blk.alloc | (apply Blk.off; (first | assumption | omega)) | (apply Blk.put; omega) | (apply Blk.put0; omega) | apply Blk.same)
              · apply Blk.cast
                · with_reducible repeat (first | exact Blk.new _ _ _ | (apply Blk.newAt rfl; (first | (simp; done) | (simp; omega))) | assumption | exact D3 | apply Blk.drew | apply Blk.drewN | apply Blk.alloc | (apply Blk.off; (first | assumption | omega)) | (apply Blk.put; omega) | (apply Blk.put0; omega) | apply Blk.same)
                refine grid_congr fun a b _ hb => ?_
                by_cases e : a = l
                · subst e; rcases (show b = 0 ∨ b = 1 ∨ b = 2 by omega) with rfl | rfl | rfl <;> simp [endsC, halfE]
                · have : (a < l + 1) ↔ a < l := by omega
                  simp [endsC, halfE, e, this]
            case measure => simp [intOf]; omega
          · obtain rfl : l = K := by omega
            go_wp2_with fail
            go_ret2
            refine ⟨bq, bn, be, g1, g2, g3, rfl, F1, D1, ?_, ?_, n1, n2, k1, k2⟩
            · exact D2.cast (grid_congr fun a b ha _ => by simp [linkC, halfL, ha])
            · exact D3.cast (grid_congr fun a b ha _ => by simp [endsC, halfE, ha])
end Go.Proofs.Ytkimldeagndgjaa

/- The queues by lists: each method's contract over the list of each queue's nodes. -/
namespace Go.Proofs.Ytkimldeagndgjaa
set_option linter.unusedVariables false
set_option linter.unusedSimpArgs false
open Go.RowKit

def AbsQ (w : World) (bq bn be N K : Nat) (L : Nat → List Nat) : Prop := ∃ nd en, RepQ w bq bn be N K nd en ∧ QInv N K L nd en

theorem AbsQ.fr {S : List Nat} {w w' : World} {bq bn be N K : Nat} {L : Nat → List Nat} (h : AbsQ w bq bn be N K L) (hf : Fr S w w') (h1 : bq ∉ S) (h2 : bn ∉ S) (h3 : be ∉ S) : AbsQ w' bq bn be N K L := by
  obtain ⟨nd, en, r, i⟩ := h
  exact ⟨nd, en, ⟨r.q.fr hf h1, r.n.fr hf h2, r.e.fr hf h3, r.N1, r.N2, r.K1, r.K2⟩, i⟩

/-- May n be pushed onto queue i? -/
def pushOk (N K : Nat) (L : Nat → List Nat) (i n : Int) : Prop := 0 ≤ i ∧ i < K ∧ 0 ≤ n ∧ n < N ∧ ∀ j, j < K → n.toNat ∉ L j

theorem push_yes {w : World} {bq bn be N K : Nat} {L : Nat → List Nat} (h : AbsQ w bq bn be N K L) (i n : Nat) (hi : i < K) (hn : n < N) (hf : ∀ j, j < K → n ∉ L j) :
    Calls Try.prog 88 #[.pointer (some ⟨bq, 0, none⟩), .int .i64 i, .int .i64 n] w fun e w' => e = .returned (.bool true) ∧ Fr [bn, be] w w' ∧ AbsQ w' bq bn be N K (updQ L i (L i ++ [n])) := by
  obtain ⟨nd, en, r, v⟩ := h
  have hl := v.free n hn hf
  have he := v.een i hi
  have hlen := v.len hi
  have hN := r.N2
  rcases hq : (L i).getLast? with _ | m
  · have hnil : L i = [] := List.getLast?_eq_none_iff.1 hq
    refine (push_ok1 w bq bn be N K nd en r i n hi hn hl (by rw [he]; simp [hnil, ptr]) (by rw [he]; dsimp only; omega)).mono ?_
    rintro e w' ⟨h1, h2, h3⟩
    exact ⟨h1, h2, _, _, h3, inv_push1 v hi hn hf hnil⟩
  · have hm := getLast_mem hq
    have hmn : n ≠ m := by rintro rfl; exact hf i hi hm
    refine (push_ok2 w bq bn be N K nd en r i n m hi hn (v.queue hi hm).1 hmn hl (by rw [he]; simp [hq, ptr]) (by rw [he]; dsimp only; omega)).mono ?_
    rintro e w' ⟨h1, h2, h3⟩
    exact ⟨h1, h2, _, _, h3, inv_push2 v hi hn hf hq⟩

theorem push_refused {w : World} {bq bn be N K : Nat} {L : Nat → List Nat} (h : AbsQ w bq bn be N K L) (i n : Int) (hno : ¬ pushOk N K L i n) :
    Calls Try.prog 88 #[.pointer (some ⟨bq, 0, none⟩), .int .i64 i, .int .i64 n] w fun e w' => e = .returned (.bool false) ∧ Fr [bn, be] w w' ∧ AbsQ w' bq bn be N K L := by
  obtain ⟨nd, en, r, v⟩ := h
  by_cases c1 : i < 0 ∨ K ≤ i
  · refine (push_noq w bq bn be N K nd en r i n c1).mono ?_
    rintro e w' ⟨h1, h2, h3⟩
    exact ⟨h1, h2, _, _, h3, v⟩
  · obtain ⟨i', rfl⟩ := Int.eq_ofNat_of_zero_le (show 0 ≤ i by omega)
    by_cases c2 : n < 0 ∨ N ≤ n
    · refine (push_non w bq bn be N K nd en r i' n (by omega) c2).mono ?_
      rintro e w' ⟨h1, h2, h3⟩
      exact ⟨h1, h2, _, _, h3, v⟩
    · obtain ⟨n', rfl⟩ := Int.eq_ofNat_of_zero_le (show 0 ≤ n by omega)
      have hex : ∃ j, j < K ∧ n' ∈ L j := by
        by_cases c : ∃ j, j < K ∧ n' ∈ L j
        · exact c
        · exfalso
          apply hno
          refine ⟨by omega, by omega, by omega, by omega, fun j hj hm => c ⟨j, hj, ?_⟩⟩
          simpa using hm
      obtain ⟨j, hj, hm⟩ := hex
      refine (push_in w bq bn be N K nd en r i' n' (by omega) (by omega) (by rw [(v.queue hj hm).2]; first | (simp; done) | (simp; omega))).mono ?_
      rintro e w' ⟨h1, h2, h3⟩
      exact ⟨h1, h2, _, _, h3, v⟩

theorem front_yes {w : World} {bq bn be N K : Nat} {L : Nat → List Nat} (h : AbsQ w bq bn be N K L) (i x : Nat) (l : List Nat) (hi : i < K) (hL : L i = x :: l) :
    Calls Try.prog 94 #[.pointer (some ⟨bq, 0, none⟩), .int .i64 i] w fun e w' => e = .returned (.tuple #[.int .i64 x, .bool true]) ∧ Fr [] w w' := by
  obtain ⟨nd, en, r, v⟩ := h
  have he := v.een i hi
  rw [hL] at he
  have hf : (en i).first = x := by rw [he]; simp [ptr]
  refine (front_some w bq bn be N K nd en r i hi (by rw [hf]; first | (simp; done) | (simp; omega))).mono ?_
  rw [hf]
  exact fun e w' h => h

theorem front_no {w : World} {bq bn be N K : Nat} {L : Nat → List Nat} (h : AbsQ w bq bn be N K L) (i : Int) (hi : (i < 0 ∨ K ≤ i) ∨ (∃ j : Nat, i = j ∧ j < K ∧ L j = [])) :
    Calls Try.prog 94 #[.pointer (some ⟨bq, 0, none⟩), .int .i64 i] w fun e w' => e = .returned (.tuple #[.int .i64 0, .bool false]) ∧ Fr [] w w' := by
  obtain ⟨nd, en, r, v⟩ := h
  rcases hi with hi | ⟨j, rfl, hj, hL⟩
  · exact front_out w bq bn be N K nd en r i hi
  · exact front_empty w bq bn be N K nd en r j hj (by rw [v.een j hj, hL]; rfl)

theorem of_yes {w : World} {bq bn be N K : Nat} {L : Nat → List Nat} (h : AbsQ w bq bn be N K L) (i n : Nat) (hi : i < K) (hn : n ∈ L i) :
    Calls Try.prog 166 #[.pointer (some ⟨bq, 0, none⟩), .int .i64 n] w fun e w' => e = .returned (.tuple #[.int .i64 i, .bool true]) ∧ w = w' := by
  obtain ⟨nd, en, r, v⟩ := h
  obtain ⟨h1, h2⟩ := v.queue hi hn
  refine (of_in w bq bn be N K nd en r n h1 (by rw [h2]; first | (simp; done) | (simp; omega))).mono ?_
  rw [h2]
  exact fun e w' h => h

theorem of_no {w : World} {bq bn be N K : Nat} {L : Nat → List Nat} (h : AbsQ w bq bn be N K L) (n : Int) (hn : ∀ i, i < K → ∀ m : Nat, n = m → m ∉ L i) :
    Calls Try.prog 166 #[.pointer (some ⟨bq, 0, none⟩), .int .i64 n] w fun e w' => e = .returned (.tuple #[.int .i64 0, .bool false]) ∧ w = w' := by
  obtain ⟨nd, en, r, v⟩ := h
  by_cases c : n < 0 ∨ N ≤ n
  · exact of_out w bq bn be N K nd en r n c
  · obtain ⟨n', rfl⟩ := Int.eq_ofNat_of_zero_le (show 0 ≤ n by omega)
    exact of_loose w bq bn be N K nd en r n' (by omega) (by rw [v.free n' (by omega) (fun i hi => hn i hi n' rfl)])

theorem remove_none {w : World} {bq bn be N K : Nat} {L : Nat → List Nat} (h : AbsQ w bq bn be N K L) (n : Int) (hn : ∀ i, i < K → ∀ m : Nat, n = m → m ∉ L i) :
    Calls Try.prog 137 #[.pointer (some ⟨bq, 0, none⟩), .int .i64 n] w fun e w' => e = .returned (.tuple #[.int .i64 0, .bool false]) ∧ w = w' := by
  obtain ⟨nd, en, r, v⟩ := h
  refine remove_no w bq bn be N K nd en r n ?_
  by_cases c : n < 0 ∨ N ≤ n
  · exact .inl c
  · obtain ⟨n', rfl⟩ := Int.eq_ofNat_of_zero_le (show 0 ≤ n by omega)
    exact .inr ⟨n', by omega, rfl, by rw [v.free n' (by omega) (fun i hi => hn i hi n' rfl)]⟩

theorem remove_yes {w : World} {bq bn be N K : Nat} {L : Nat → List Nat} (h : AbsQ w bq bn be N K L) (i n : Nat) (A B : List Nat) (hi : i < K) (hs : L i = A ++ n :: B) :
    Calls Try.prog 137 #[.pointer (some ⟨bq, 0, none⟩), .int .i64 n] w fun e w' => e = .returned (.tuple #[.int .i64 i, .bool true]) ∧ Fr [bn, be] w w' ∧ AbsQ w' bq bn be N K (updQ L i (A ++ B)) := by
  obtain ⟨nd, en, r, v⟩ := h
  obtain ⟨hn, hl⟩ := v.lnk i hi A n B hs
  have he := v.een i hi
  have hlen := v.len hi
  have hN := r.N2
  have hc : 0 ≤ (en i).n ∧ (en i).n ≤ 1000 := by rw [he]; dsimp only; omega
  have inv := inv_remove v hi hs
  have hnd := v.nodup i hi
  rw [hs] at hnd
  obtain ⟨na, nb, nab⟩ := List.nodup_append.1 hnd
  obtain ⟨nnb, nB⟩ := List.nodup_cons.1 nb
  have inL : ∀ x, x ∈ A ∨ x ∈ B → x < N ∧ x ≠ n := fun x hx => by
    refine ⟨(v.queue hi (by rw [hs]; rcases hx with hx | hx <;> simp [hx])).1, ?_⟩
    rintro rfl
    rcases hx with hx | hx
    · exact nab x hx x (by simp) rfl
    · exact nnb hx
  rcases hp : A.getLast? with _ | p
  · rcases hq : B.head? with _ | q
    · rw [hp, hq] at hl inv
      refine (remove_00 w bq bn be N K nd en r i n hi hn (by simpa [ptr] using hl) hc).mono ?_
      rintro e w' ⟨h1, h2, h3⟩
      refine ⟨h1, h2, _, _, h3, ?_⟩
      have e1 : updL nd n ⟨-1, -1, -1⟩ = rmN nd n none none := by
        funext x; by_cases c : x = n <;> simp [updL, rmN, c]
      have e2 : updE en i ⟨-1, -1, (en i).n - 1⟩ = rmE en i none none := by
        funext x; by_cases c : x = i <;> simp [updE, rmE, c, ptr]
      rw [e1, e2]; exact inv
    · rw [hp, hq] at hl inv
      obtain ⟨q1, q2⟩ := inL q (.inr (head_mem hq))
      refine (remove_01 w bq bn be N K nd en r i n q hi hn q1 q2 (by simpa [ptr] using hl) hc).mono ?_
      rintro e w' ⟨h1, h2, h3⟩
      refine ⟨h1, h2, _, _, h3, ?_⟩
      have e1 : updL (updL nd q { nd q with ahead := -1 }) n ⟨-1, -1, -1⟩ = rmN nd n none (some q) := by
        funext x; by_cases c : x = n <;> by_cases c2 : x = q <;> simp [updL, rmN, c, c2, ptr]
      have e2 : updE en i ⟨q, (en i).last, (en i).n - 1⟩ = rmE en i none (some q) := by
        funext x; by_cases c : x = i <;> simp [updE, rmE, c, ptr]
      rw [e1, e2]; exact inv
  · rcases hq : B.head? with _ | q
    · rw [hp, hq] at hl inv
      obtain ⟨p1, p2⟩ := inL p (.inl (getLast_mem hp))
      refine (remove_10 w bq bn be N K nd en r i n p hi hn p1 p2 (by simpa [ptr] using hl) hc).mono ?_
      rintro e w' ⟨h1, h2, h3⟩
      refine ⟨h1, h2, _, _, h3, ?_⟩
      have e1 : updL (updL nd p { nd p with behind := -1 }) n ⟨-1, -1, -1⟩ = rmN nd n (some p) none := by
        funext x; by_cases c : x = n <;> by_cases c2 : x = p <;> simp [updL, rmN, c, c2, ptr]
      have e2 : updE en i ⟨(en i).first, p, (en i).n - 1⟩ = rmE en i (some p) none := by
        funext x; by_cases c : x = i <;> simp [updE, rmE, c, ptr]
      rw [e1, e2]; exact inv
    · rw [hp, hq] at hl inv
      obtain ⟨p1, p2⟩ := inL p (.inl (getLast_mem hp))
      obtain ⟨q1, q2⟩ := inL q (.inr (head_mem hq))
      have hpq : p ≠ q := by
        rintro rfl
        exact nab p (getLast_mem hp) p (by simp [head_mem hq]) rfl
      refine (remove_11 w bq bn be N K nd en r i n p q hi hn p1 p2 q1 q2 hpq (by simpa [ptr] using hl) hc).mono ?_
      rintro e w' ⟨h1, h2, h3⟩
      refine ⟨h1, h2, _, _, h3, ?_⟩
      have e1 : updL (updL (updL nd p { nd p with behind := q }) q { nd q with ahead := p }) n ⟨-1, -1, -1⟩ = rmN nd n (some p) (some q) := by
        funext x
        by_cases c : x = n
        · simp [updL, rmN, c]
        · by_cases c2 : x = p
          · have c3 : x ≠ q := by rw [c2]; exact hpq
            subst c2
            simp [updL, rmN, c, c3, ptr]
          · by_cases c3 : x = q
            · subst c3; simp [updL, rmN, c, c2, ptr]
            · simp [updL, rmN, c, c2, c3]
      have e2 : updE en i ⟨(en i).first, (en i).last, (en i).n - 1⟩ = rmE en i (some p) (some q) := by
        funext x; by_cases c : x = i <;> simp [updE, rmE, c]
      rw [e1, e2]; exact inv

theorem new_yes (w : World) (N K : Nat) (n1 : 1 ≤ N) (n2 : N ≤ 500) (k1 : 1 ≤ K) (k2 : K ≤ 400) :
    Calls Try.prog 82 #[.int .i64 N, .int .i64 K] w fun e w' => ∃ bq bn be, w.heap.size ≤ bq ∧ w.heap.size ≤ bn ∧ w.heap.size ≤ be ∧ e = .returned (.tuple #[.pointer (some ⟨bq, 0, none⟩), .int .i64 0]) ∧ Fr [] w w' ∧
      AbsQ w' bq bn be N K (fun _ => []) :=
  (new_ok w N K n1 n2 k1 k2).mono fun _ _ ⟨bq, bn, be, h1, h2, h3, h4, h5, h6⟩ => ⟨bq, bn, be, h1, h2, h3, h4, h5, _, _, h6, QInv.new N K⟩
end Go.Proofs.Ytkimldeagndgjaa
