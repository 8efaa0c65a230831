/- The queues' methods, walked. -/
import Derived.Test.YtkimldeagndgjaaFifoA
import Derived.Deep.RegionHeld3
namespace Go.Proofs.Ytkimldeagndgjaa
set_option linter.unusedVariables false
set_option linter.unusedSimpArgs false
open Go.RowKit

def updL (f : Nat → Link) (k : Nat) (l : Link) : Nat → Link := fun j => if j = k then l else f j
def updE (f : Nat → Ends) (k : Nat) (l : Ends) : Nat → Ends := fun j => if j = k then l else f j

theorem push_ok1 (w : World) (bq bn be N K : Nat) (nd : Nat → Link) (en : Nat → Ends) (h : RepQ w bq bn be N K nd en) (i n : Nat) (hi : i < K) (hn : n < N)
    (hl : nd n = ⟨-1, -1, -1⟩) (he : (en i).last = -1) (hc : 0 ≤ (en i).n ∧ (en i).n ≤ 1000) :
    Calls Try.prog 88 #[.pointer (some ⟨bq, 0, none⟩), .int .i64 i, .int .i64 n] w fun e w' => e = .returned (.bool true) ∧ Fr [bn, be] w w' ∧ RepQ w' bq bn be N K (updL nd n ⟨-1, -1, i⟩) (updE en i ⟨n, n, (en i).n + 1⟩) := by
  have n1 := h.n.at0 hn (show 0 < 3 by omega)
  have n2 := h.n.at hn (show 1 < 3 by omega)
  have n3 := h.n.at hn (show 2 < 3 by omega)
  have e1 := h.e.at0 hi (show 0 < 3 by omega)
  have e2 := h.e.at hi (show 1 < 3 by omega)
  have e3 := h.e.at hi (show 2 < 3 by omega)
  simp only [linkC, hl] at n1 n2 n3
  simp only [endsC, he] at e1 e2 e3
  have f1 := h.n.frozen (n * 3)
  have f2 := h.n.frozen (n * 3 + 1)
  have f3 := h.n.frozen (n * 3 + 2)
  have g1 := h.e.frozen (i * 3)
  have g2 := h.e.frozen (i * 3 + 1)
  have g3 := h.e.frozen (i * 3 + 2)
  have d1 := h.ne1
  have d2 := h.ne2
  have d3 := h.ne3
  have l1 := h.n.lt
  have l2 := h.e.lt
  have HL := Lib.hid hl
  have HE := Lib.hid he
  clear hl he
  go_enter Try.func88, Try.ntmps88
  go_wp2_with fail
  refine (queue_in w bq bn be N K h.q h.K2 i hi).mono ?_
  rintro e w' ⟨rfl, rfl⟩
  go_wp2_with fail
  refine (node_in w bq bn be N K h.q h.N2 n hn).mono ?_
  rintro e w' ⟨rfl, rfl⟩
  go_wp2_with fail
  go_region_held3 (fun w' => w'.cell? ⟨bn, n * 3, none⟩ = some (.int .i64 (-1)) ∧ w'.cell? ⟨bn, n * 3 + 1, none⟩ = some (.int .i64 (-1)) ∧ w'.cell? ⟨bn, n * 3 + 2, none⟩ = some (.int .i64 (-1))) (go_keep)
    (first | (go_at_call 130; refine (loose_any _).mono ?_; rintro e w' ⟨rfl, rfl⟩))
  go_wp2_with fail
  refine (node_out _ bq bn be N K ?hq h.N2 (-1) (by omega)).mono ?_
  case hq => with_reducible repeat (first | exact Blk.new _ _ _ | (apply Blk.newAt rfl; (first | (simp; done) | (simp; omega))) | assumption | exact h.q | apply Blk.drew | apply Blk.drewN | apply Blk.alloc | (apply Blk.off; (first | assumption | omega)) | (apply Blk.put; omega) | (apply Blk.put0; omega) | apply Blk.same)
  rintro e w' ⟨rfl, rfl⟩
  go_wp2_with fail
  go_ret
  refine ⟨rfl, ?_, ?_, ?_, ?_, h.N1, h.N2, h.K1, h.K2⟩
  · with_reducible repeat (first | exact Fr.refl _ _ | assumption | apply Fr.drew | apply Fr.drewN | apply Fr.alloc | (apply Fr.step; assumption; (intro _ h; (first | exact h | (focus (simp_all; done))))) | (apply Fr.setIn; (first | exact List.mem_cons_self | exact List.mem_cons_of_mem _ List.mem_cons_self | exact List.mem_cons_of_mem _ (List.mem_cons_of_mem _ List.mem_cons_self) | exact List.mem_cons_of_mem _ (List.mem_cons_of_mem _ (List.mem_cons_of_mem _ List.mem_cons_self)))) | (apply Fr.setNew; (first | omega | (simp; omega))))
  · with_reducible repeat (first | exact Blk.new _ _ _ | (apply Blk.newAt rfl; (first | (simp; done) | (simp; omega))) | assumption | exact h.q | apply Blk.drew | apply Blk.drewN | apply Blk.alloc | (apply Blk.off; (first | assumption | omega)) | (apply Blk.put; omega) | (apply Blk.put0; omega) | apply Blk.same)
  · apply Blk.cast
    · with_reducible repeat (first | exact Blk.new _ _ _ | (apply Blk.newAt rfl; (first | (simp; done) | (simp; omega))) | assumption | exact h.n | apply Blk.drew | apply Blk.drewN | apply Blk.alloc | (apply Blk.off; (first | assumption | omega)) | (apply Blk.put; omega) | (apply Blk.put0; omega) | apply Blk.same)
    refine grid_congr fun a b _ hb => ?_
    by_cases e : a = n
    · subst e; rcases (show b = 0 ∨ b = 1 ∨ b = 2 by omega) with rfl | rfl | rfl <;> simp [linkC, updL]
    · simp [linkC, updL, e]
  · apply Blk.cast
    · with_reducible repeat (first | exact Blk.new _ _ _ | (apply Blk.newAt rfl; (first | (simp; done) | (simp; omega))) | assumption | exact h.e | apply Blk.drew | apply Blk.drewN | apply Blk.alloc | (apply Blk.off; (first | assumption | omega)) | (apply Blk.put; omega) | (apply Blk.put0; omega) | apply Blk.same)
    refine grid_congr fun a b _ hb => ?_
    by_cases e : a = i
    · subst e; rcases (show b = 0 ∨ b = 1 ∨ b = 2 by omega) with rfl | rfl | rfl <;> simp [endsC, updE]
    · simp [endsC, updE, e]

theorem push_ok2 (w : World) (bq bn be N K : Nat) (nd : Nat → Link) (en : Nat → Ends) (h : RepQ w bq bn be N K nd en) (i n m : Nat) (hi : i < K) (hn : n < N) (hm : m < N) (hnm : n ≠ m)
    (hl : nd n = ⟨-1, -1, -1⟩) (he : (en i).last = m) (hc : 0 ≤ (en i).n ∧ (en i).n ≤ 1000) :
    Calls Try.prog 88 #[.pointer (some ⟨bq, 0, none⟩), .int .i64 i, .int .i64 n] w fun e w' => e = .returned (.bool true) ∧ Fr [bn, be] w w' ∧ RepQ w' bq bn be N K (updL (updL nd n ⟨m, -1, i⟩) m { nd m with behind := n }) (updE en i ⟨(en i).first, n, (en i).n + 1⟩) := by
  have n1 := h.n.at0 hn (show 0 < 3 by omega)
  have n2 := h.n.at hn (show 1 < 3 by omega)
  have n3 := h.n.at hn (show 2 < 3 by omega)
  have m2 := h.n.at hm (show 1 < 3 by omega)
  have e1 := h.e.at0 hi (show 0 < 3 by omega)
  have e2 := h.e.at hi (show 1 < 3 by omega)
  have e3 := h.e.at hi (show 2 < 3 by omega)
  simp only [linkC, hl] at n1 n2 n3
  simp only [endsC, he] at e1 e2 e3
  have f1 := h.n.frozen (n * 3)
  have f2 := h.n.frozen (n * 3 + 1)
  have f3 := h.n.frozen (n * 3 + 2)
  have f4 := h.n.frozen (m * 3 + 1)
  have g2 := h.e.frozen (i * 3 + 1)
  have g3 := h.e.frozen (i * 3 + 2)
  have d1 := h.ne1
  have d2 := h.ne2
  have d3 := h.ne3
  have l1 := h.n.lt
  have l2 := h.e.lt
  have HL := Lib.hid hl
  have HE := Lib.hid he
  clear hl he
  go_enter Try.func88, Try.ntmps88
  go_wp2_with fail
  refine (queue_in w bq bn be N K h.q h.K2 i hi).mono ?_
  rintro e w' ⟨rfl, rfl⟩
  go_wp2_with fail
  refine (node_in w bq bn be N K h.q h.N2 n hn).mono ?_
  rintro e w' ⟨rfl, rfl⟩
  go_wp2_with fail
  go_region_held3 (fun w' => w'.cell? ⟨bn, n * 3, none⟩ = some (.int .i64 (-1)) ∧ w'.cell? ⟨bn, n * 3 + 1, none⟩ = some (.int .i64 (-1)) ∧ w'.cell? ⟨bn, n * 3 + 2, none⟩ = some (.int .i64 (-1))) (go_keep)
    (first | (go_at_call 130; refine (loose_any _).mono ?_; rintro e w' ⟨rfl, rfl⟩))
  go_wp2_with fail
  refine (node_in _ bq bn be N K ?hq h.N2 m hm).mono ?_
  case hq => with_reducible repeat (first | exact Blk.new _ _ _ | (apply Blk.newAt rfl; (first | (simp; done) | (simp; omega))) | assumption | exact h.q | apply Blk.drew | apply Blk.drewN | apply Blk.alloc | (apply Blk.off; (first | assumption | omega)) | (apply Blk.put; omega) | (apply Blk.put0; omega) | apply Blk.same)
  rintro e w' ⟨rfl, rfl⟩
  go_wp2_with fail
  go_ret
  refine ⟨rfl, ?_, ?_, ?_, ?_, h.N1, h.N2, h.K1, h.K2⟩
  · with_reducible repeat (first | exact Fr.refl _ _ | assumption | apply Fr.drew | apply Fr.drewN | apply Fr.alloc | (apply Fr.step; assumption; (intro _ h; (first | exact h | (focus (simp_all; done))))) | (apply Fr.setIn; (first | exact List.mem_cons_self | exact List.mem_cons_of_mem _ List.mem_cons_self | exact List.mem_cons_of_mem _ (List.mem_cons_of_mem _ List.mem_cons_self) | exact List.mem_cons_of_mem _ (List.mem_cons_of_mem _ (List.mem_cons_of_mem _ List.mem_cons_self)))) | (apply Fr.setNew; (first | omega | (simp; omega))))
  · with_reducible repeat (first | exact Blk.new _ _ _ | (apply Blk.newAt rfl; (first | (simp; done) | (simp; omega))) | assumption | exact h.q | apply Blk.drew | apply Blk.drewN | apply Blk.alloc | (apply Blk.off; (first | assumption | omega)) | (apply Blk.put; omega) | (apply Blk.put0; omega) | apply Blk.same)
  · apply Blk.cast
    · with_reducible repeat (first | exact Blk.new _ _ _ | (apply Blk.newAt rfl; (first | (simp; done) | (simp; omega))) | assumption | exact h.n | apply Blk.drew | apply Blk.drewN | apply Blk.alloc | (apply Blk.off; (first | assumption | omega)) | (apply Blk.put; omega) | (apply Blk.put0; omega) | apply Blk.same)
    refine grid_congr fun a b _ hb => ?_
    by_cases e : a = m
    · subst e; rcases (show b = 0 ∨ b = 1 ∨ b = 2 by omega) with rfl | rfl | rfl <;> simp [linkC, updL] <;> omega
    · by_cases e' : a = n
      · subst e'; rcases (show b = 0 ∨ b = 1 ∨ b = 2 by omega) with rfl | rfl | rfl <;> simp [linkC, updL, e]
      · simp [linkC, updL, e, e']
  · apply Blk.cast
    · with_reducible repeat (first | exact Blk.new _ _ _ | (apply Blk.newAt rfl; (first | (simp; done) | (simp; omega))) | assumption | exact h.e | apply Blk.drew | apply Blk.drewN | apply Blk.alloc | (apply Blk.off; (first | assumption | omega)) | (apply Blk.put; omega) | (apply Blk.put0; omega) | apply Blk.same)
    refine grid_congr fun a b _ hb => ?_
    by_cases e : a = i
    · subst e; rcases (show b = 0 ∨ b = 1 ∨ b = 2 by omega) with rfl | rfl | rfl <;> simp [endsC, updE]
    · simp [endsC, updE, e]

theorem push_noq (w : World) (bq bn be N K : Nat) (nd : Nat → Link) (en : Nat → Ends) (h : RepQ w bq bn be N K nd en) (i n : Int) (hi : i < 0 ∨ K ≤ i) :
    Calls Try.prog 88 #[.pointer (some ⟨bq, 0, none⟩), .int .i64 i, .int .i64 n] w fun e w' => e = .returned (.bool false) ∧ Fr [bn, be] w w' ∧ RepQ w' bq bn be N K nd en := by
  have hn : (n < 0 ∨ N ≤ n) ∨ (∃ m : Nat, m < N ∧ n = m) := by
    by_cases c : n < 0 ∨ N ≤ n
    · exact .inl c
    · exact .inr ⟨n.toNat, by omega, by omega⟩
  go_enter Try.func88, Try.ntmps88
  go_wp2_with fail
  refine (queue_out w bq bn be N K h.q h.K2 i hi).mono ?_
  rintro e w' ⟨rfl, rfl⟩
  go_wp2_with fail
  rcases hn with hn | ⟨m, hm, rfl⟩
  · refine (node_out w bq bn be N K h.q h.N2 n hn).mono ?_
    rintro e w' ⟨rfl, rfl⟩
    go_wp2_with fail
    go_quiet (fail)
    go_wp2
    go_ret
    refine ⟨rfl, ?_, ?_, ?_, ?_, h.N1, h.N2, h.K1, h.K2⟩
    · with_reducible repeat (first | exact Fr.refl _ _ | assumption | apply Fr.drew | apply Fr.drewN | apply Fr.alloc | (apply Fr.step; assumption; (intro _ h; (first | exact h | (focus (simp_all; done))))) | (apply Fr.setIn; (first | exact List.mem_cons_self | exact List.mem_cons_of_mem _ List.mem_cons_self | exact List.mem_cons_of_mem _ (List.mem_cons_of_mem _ List.mem_cons_self) | exact List.mem_cons_of_mem _ (List.mem_cons_of_mem _ (List.mem_cons_of_mem _ List.mem_cons_self)))) | (apply Fr.setNew; (first | omega | (simp; omega))))
    · with_reducible repeat (first | exact Blk.new _ _ _ | (apply Blk.newAt rfl; (first | (simp; done) | (simp; omega))) | assumption | exact h.q | apply Blk.drew | apply Blk.drewN | apply Blk.alloc | (apply Blk.off; (first | assumption | omega)) | (apply Blk.put; omega) | (apply Blk.put0; omega) | apply Blk.same)
    · with_reducible repeat (first | exact Blk.new _ _ _ | (apply Blk.newAt rfl; (first | (simp; done) | (simp; omega))) | assumption | exact h.n | apply Blk.drew | apply Blk.drewN | apply Blk.alloc | (apply Blk.off; (first | assumption | omega)) | (apply Blk.put; omega) | (apply Blk.put0; omega) | apply Blk.same)
    · with_reducible repeat (first | exact Blk.new _ _ _ | (apply Blk.newAt rfl; (first | (simp; done) | (simp; omega))) | assumption | exact h.e | apply Blk.drew | apply Blk.drewN | apply Blk.alloc | (apply Blk.off; (first | assumption | omega)) | (apply Blk.put; omega) | (apply Blk.put0; omega) | apply Blk.same)
  · refine (node_in w bq bn be N K h.q h.N2 m hm).mono ?_
    rintro e w' ⟨rfl, rfl⟩
    go_wp2_with fail
    go_quiet (fail)
    go_wp2
    go_ret
    refine ⟨rfl, ?_, ?_, ?_, ?_, h.N1, h.N2, h.K1, h.K2⟩
    · with_reducible repeat (first | exact Fr.refl _ _ | assumption | apply Fr.drew | apply Fr.drewN | apply Fr.alloc | (apply Fr.step; assumption; (intro _ h; (first | exact h | (focus (simp_all; done))))) | (apply Fr.setIn; (first | exact List.mem_cons_self | exact List.mem_cons_of_mem _ List.mem_cons_self | exact List.mem_cons_of_mem _ (List.mem_cons_of_mem _ List.mem_cons_self) | exact List.mem_cons_of_mem _ (List.mem_cons_of_mem _ (List.mem_cons_of_mem _ List.mem_cons_self)))) | (apply Fr.setNew; (first | omega | (simp; omega))))
    · with_reducible repeat (first | exact Blk.new _ _ _ | (apply Blk.newAt rfl; (first | (simp; done) | (simp; omega))) | assumption | exact h.q | apply Blk.drew | apply Blk.drewN | apply Blk.alloc | (apply Blk.off; (first | assumption | omega)) | (apply Blk.put; omega) | (apply Blk.put0; omega) | apply Blk.same)
    · with_reducible repeat (first | exact Blk.new _ _ _ | (apply Blk.newAt rfl; (first | (simp; done) | (simp; omega))) | assumption | exact h.n | apply Blk.drew | apply Blk.drewN | apply Blk.alloc | (apply Blk.off; (first | assumption | omega)) | (apply Blk.put; omega) | (apply Blk.put0; omega) | apply Blk.same)
    · with_reducible repeat (first | exact Blk.new _ _ _ | (apply Blk.newAt rfl; (first | (simp; done) | (simp; omega))) | assumption | exact h.e | apply Blk.drew | apply Blk.drewN | apply Blk.alloc | (apply Blk.off; (first | assumption | omega)) | (apply Blk.put; omega) | (apply Blk.put0; omega) | apply Blk.same)

theorem push_non (w : World) (bq bn be N K : Nat) (nd : Nat → Link) (en : Nat → Ends) (h : RepQ w bq bn be N K nd en) (i : Nat) (n : Int) (hi : i < K) (hn : n < 0 ∨ N ≤ n) :
    Calls Try.prog 88 #[.pointer (some ⟨bq, 0, none⟩), .int .i64 i, .int .i64 n] w fun e w' => e = .returned (.bool false) ∧ Fr [bn, be] w w' ∧ RepQ w' bq bn be N K nd en := by
  go_enter Try.func88, Try.ntmps88
  go_wp2_with fail
  refine (queue_in w bq bn be N K h.q h.K2 i hi).mono ?_
  rintro e w' ⟨rfl, rfl⟩
  go_wp2_with fail
  refine (node_out w bq bn be N K h.q h.N2 n hn).mono ?_
  rintro e w' ⟨rfl, rfl⟩
  go_wp2_with fail
  go_quiet (fail)
  go_wp2
  go_ret
  refine ⟨rfl, ?_, ?_, ?_, ?_, h.N1, h.N2, h.K1, h.K2⟩
  · with_reducible repeat (first | exact Fr.refl _ _ | assumption | apply Fr.drew | apply Fr.drewN | apply Fr.alloc | (apply Fr.step; assumption; (intro _ h; (first | exact h | (focus (simp_all; done))))) | (apply Fr.setIn; (first | exact List.mem_cons_self | exact List.mem_cons_of_mem _ List.mem_cons_self | exact List.mem_cons_of_mem _ (List.mem_cons_of_mem _ List.mem_cons_self) | exact List.mem_cons_of_mem _ (List.mem_cons_of_mem _ (List.mem_cons_of_mem _ List.mem_cons_self)))) | (apply Fr.setNew; (first | omega | (simp; omega))))
  · with_reducible repeat (first | exact Blk.new _ _ _ | (apply Blk.newAt rfl; (first | (simp; done) | (simp; omega))) | assumption | exact h.q | apply Blk.drew | apply Blk.drewN | apply Blk.alloc | (apply Blk.off; (first | assumption | omega)) | (apply Blk.put; omega) | (apply Blk.put0; omega) | apply Blk.same)
  · with_reducible repeat (first | exact Blk.new _ _ _ | (apply Blk.newAt rfl; (first | (simp; done) | (simp; omega))) | assumption | exact h.n | apply Blk.drew | apply Blk.drewN | apply Blk.alloc | (apply Blk.off; (first | assumption | omega)) | (apply Blk.put; omega) | (apply Blk.put0; omega) | apply Blk.same)
  · with_reducible repeat (first | exact Blk.new _ _ _ | (apply Blk.newAt rfl; (first | (simp; done) | (simp; omega))) | assumption | exact h.e | apply Blk.drew | apply Blk.drewN | apply Blk.alloc | (apply Blk.off; (first | assumption | omega)) | (apply Blk.put; omega) | (apply Blk.put0; omega) | apply Blk.same)

theorem push_in (w : World) (bq bn be N K : Nat) (nd : Nat → Link) (en : Nat → Ends) (h : RepQ w bq bn be N K nd en) (i n : Nat) (hi : i < K) (hn : n < N)
    (hl : ((nd n).queue == -1) = false) :
    Calls Try.prog 88 #[.pointer (some ⟨bq, 0, none⟩), .int .i64 i, .int .i64 n] w fun e w' => e = .returned (.bool false) ∧ Fr [bn, be] w w' ∧ RepQ w' bq bn be N K nd en := by
  have n1 := h.n.at0 hn (show 0 < 3 by omega)
  have n2 := h.n.at hn (show 1 < 3 by omega)
  have n3 := h.n.at hn (show 2 < 3 by omega)
  simp only [linkC] at n1 n2 n3
  have l1 := h.n.lt
  go_enter Try.func88, Try.ntmps88
  go_wp2_with fail
  refine (queue_in w bq bn be N K h.q h.K2 i hi).mono ?_
  rintro e w' ⟨rfl, rfl⟩
  go_wp2_with fail
  refine (node_in w bq bn be N K h.q h.N2 n hn).mono ?_
  rintro e w' ⟨rfl, rfl⟩
  go_wp2_with fail
  go_region_held3 (fun w' => w'.cell? ⟨bn, n * 3, none⟩ = some (.int .i64 (nd n).ahead) ∧ w'.cell? ⟨bn, n * 3 + 1, none⟩ = some (.int .i64 (nd n).behind) ∧ w'.cell? ⟨bn, n * 3 + 2, none⟩ = some (.int .i64 (nd n).queue)) (go_keep)
    (first | (go_at_call 130; refine (loose_any _).mono ?_; rintro e w' ⟨rfl, rfl⟩))
  go_wp2
  go_ret
  refine ⟨rfl, ?_, ?_, ?_, ?_, h.N1, h.N2, h.K1, h.K2⟩
  · with_reducible repeat (first | exact Fr.refl _ _ | assumption | apply Fr.drew | apply Fr.drewN | apply Fr.alloc | (apply Fr.step; assumption; (intro _ h; (first | exact h | (focus (simp_all; done))))) | (apply Fr.setIn; (first | exact List.mem_cons_self | exact List.mem_cons_of_mem _ List.mem_cons_self | exact List.mem_cons_of_mem _ (List.mem_cons_of_mem _ List.mem_cons_self) | exact List.mem_cons_of_mem _ (List.mem_cons_of_mem _ (List.mem_cons_of_mem _ List.mem_cons_self)))) | (apply Fr.setNew; (first | omega | (simp; omega))))
  · with_reducible repeat (first | exact Blk.new _ _ _ | (apply Blk.newAt rfl; (first | (simp; done) | (simp; omega))) | assumption | exact h.q | apply Blk.drew | apply Blk.drewN | apply Blk.alloc | (apply Blk.off; (first | assumption | omega)) | (apply Blk.put; omega) | (apply Blk.put0; omega) | apply Blk.same)
  · with_reducible repeat (first | exact Blk.new _ _ _ | (apply Blk.newAt rfl; (first | (simp; done) | (simp; omega))) | assumption | exact h.n | apply Blk.drew | apply Blk.drewN | apply Blk.alloc | (apply Blk.off; (first | assumption | omega)) | (apply Blk.put; omega) | (apply Blk.put0; omega) | apply Blk.same)
  · with_reducible repeat (first | exact Blk.new _ _ _ | (apply Blk.newAt rfl; (first | (simp; done) | (simp; omega))) | assumption | exact h.e | apply Blk.drew | apply Blk.drewN | apply Blk.alloc | (apply Blk.off; (first | assumption | omega)) | (apply Blk.put; omega) | (apply Blk.put0; omega) | apply Blk.same)

theorem push_nil (w : World) (i n : Int) :
    Calls Try.prog 88 #[.pointer none, .int .i64 i, .int .i64 n] w fun e w' => e = .returned (.bool false) ∧ Fr [] w w' := by
  go_enter Try.func88, Try.ntmps88
  go_wp2_with fail
  refine (queue_nil w i).mono ?_
  rintro e w' ⟨rfl, rfl⟩
  go_wp2_with fail
  refine (node_nil w n).mono ?_
  rintro e w' ⟨rfl, rfl⟩
  go_wp2_with fail
  go_quiet (fail)
  go_wp2
  go_ret
  refine ⟨rfl, ?_⟩
  with_reducible repeat (first | exact Fr.refl _ _ | assumption | apply Fr.drew | apply Fr.drewN | apply Fr.alloc | (apply Fr.step; assumption; (intro _ h; (first | exact h | (focus (simp_all; done))))) | (apply Fr.setIn; (first | exact List.mem_cons_self | exact List.mem_cons_of_mem _ List.mem_cons_self | exact List.mem_cons_of_mem _ (List.mem_cons_of_mem _ List.mem_cons_self) | exact List.mem_cons_of_mem _ (List.mem_cons_of_mem _ (List.mem_cons_of_mem _ List.mem_cons_self)))) | (apply Fr.setNew; (first | omega | (simp; omega))))

theorem of_in (w : World) (bq bn be N K : Nat) (nd : Nat → Link) (en : Nat → Ends) (h : RepQ w bq bn be N K nd en) (n : Nat) (hn : n < N) (hl : ((nd n).queue == -1) = false) :
    Calls Try.prog 166 #[.pointer (some ⟨bq, 0, none⟩), .int .i64 n] w fun e w' => e = .returned (.tuple #[.int .i64 (nd n).queue, .bool true]) ∧ w = w' := by
  have n3 := h.n.at hn (show 2 < 3 by omega)
  simp only [linkC] at n3
  go_enter Try.func166, Try.ntmps166
  go_wp2_with fail
  refine (node_in w bq bn be N K h.q h.N2 n hn).mono ?_
  rintro e w' ⟨rfl, rfl⟩
  go_wp2
  go_ret2
  exact ⟨rfl, rfl⟩

theorem of_loose (w : World) (bq bn be N K : Nat) (nd : Nat → Link) (en : Nat → Ends) (h : RepQ w bq bn be N K nd en) (n : Nat) (hn : n < N) (hl : (nd n).queue = -1) :
    Calls Try.prog 166 #[.pointer (some ⟨bq, 0, none⟩), .int .i64 n] w fun e w' => e = .returned (.tuple #[.int .i64 0, .bool false]) ∧ w = w' := by
  have n3 := h.n.at hn (show 2 < 3 by omega)
  simp only [linkC, hl] at n3
  clear hl
  go_enter Try.func166, Try.ntmps166
  go_wp2_with fail
  refine (node_in w bq bn be N K h.q h.N2 n hn).mono ?_
  rintro e w' ⟨rfl, rfl⟩
  go_wp2
  go_ret2
  exact ⟨rfl, rfl⟩

theorem of_out (w : World) (bq bn be N K : Nat) (nd : Nat → Link) (en : Nat → Ends) (h : RepQ w bq bn be N K nd en) (n : Int) (hn : n < 0 ∨ N ≤ n) :
    Calls Try.prog 166 #[.pointer (some ⟨bq, 0, none⟩), .int .i64 n] w fun e w' => e = .returned (.tuple #[.int .i64 0, .bool false]) ∧ w = w' := by
  go_enter Try.func166, Try.ntmps166
  go_wp2_with fail
  refine (node_out w bq bn be N K h.q h.N2 n hn).mono ?_
  rintro e w' ⟨rfl, rfl⟩
  go_wp2
  go_ret2
  exact ⟨rfl, rfl⟩

theorem of_nil (w : World) (n : Int) :
    Calls Try.prog 166 #[.pointer none, .int .i64 n] w fun e w' => e = .returned (.tuple #[.int .i64 0, .bool false]) ∧ w = w' := by
  go_enter Try.func166, Try.ntmps166
  go_wp2_with fail
  refine (node_nil w n).mono ?_
  rintro e w' ⟨rfl, rfl⟩
  go_wp2
  go_ret2
  exact ⟨rfl, rfl⟩

theorem front_some (w : World) (bq bn be N K : Nat) (nd : Nat → Link) (en : Nat → Ends) (h : RepQ w bq bn be N K nd en) (i : Nat) (hi : i < K) (he : ((en i).first == -1) = false) :
    Calls Try.prog 94 #[.pointer (some ⟨bq, 0, none⟩), .int .i64 i] w fun e w' => e = .returned (.tuple #[.int .i64 (en i).first, .bool true]) ∧ Fr [] w w' := by
  have e1 := h.e.at0 hi (show 0 < 3 by omega)
  have e2 := h.e.at hi (show 1 < 3 by omega)
  have e3 := h.e.at hi (show 2 < 3 by omega)
  simp only [endsC] at e1 e2 e3
  have l2 := h.e.lt
  go_enter Try.func94, Try.ntmps94
  go_wp2_with fail
  refine (queue_in w bq bn be N K h.q h.K2 i hi).mono ?_
  rintro e w' ⟨rfl, rfl⟩
  go_wp2_with fail
  go_region_held3 (fun w' => w'.cell? ⟨be, i * 3, none⟩ = some (.int .i64 (en i).first) ∧ w'.cell? ⟨be, i * 3 + 1, none⟩ = some (.int .i64 (en i).last) ∧ w'.cell? ⟨be, i * 3 + 2, none⟩ = some (.int .i64 (en i).n)) (go_keep)
    (first | (go_at_call 131; refine (empty_any _).mono ?_; rintro e w' ⟨rfl, rfl⟩))
  go_wp2
  go_ret2
  refine ⟨rfl, ?_⟩
  with_reducible repeat (first | exact Fr.refl _ _ | assumption | apply Fr.drew | apply Fr.drewN | apply Fr.alloc | (apply Fr.step; assumption; (intro _ h; (first | exact h | (focus (simp_all; done))))) | (apply Fr.setIn; (first | exact List.mem_cons_self | exact List.mem_cons_of_mem _ List.mem_cons_self | exact List.mem_cons_of_mem _ (List.mem_cons_of_mem _ List.mem_cons_self) | exact List.mem_cons_of_mem _ (List.mem_cons_of_mem _ (List.mem_cons_of_mem _ List.mem_cons_self)))) | (apply Fr.setNew; (first | omega | (simp; omega))))

theorem front_empty (w : World) (bq bn be N K : Nat) (nd : Nat → Link) (en : Nat → Ends) (h : RepQ w bq bn be N K nd en) (i : Nat) (hi : i < K) (he : en i = ⟨-1, -1, 0⟩) :
    Calls Try.prog 94 #[.pointer (some ⟨bq, 0, none⟩), .int .i64 i] w fun e w' => e = .returned (.tuple #[.int .i64 0, .bool false]) ∧ Fr [] w w' := by
  have e1 := h.e.at0 hi (show 0 < 3 by omega)
  have e2 := h.e.at hi (show 1 < 3 by omega)
  have e3 := h.e.at hi (show 2 < 3 by omega)
  simp only [endsC, he] at e1 e2 e3
  clear he
  have l2 := h.e.lt
  go_enter Try.func94, Try.ntmps94
  go_wp2_with fail
  refine (queue_in w bq bn be N K h.q h.K2 i hi).mono ?_
  rintro e w' ⟨rfl, rfl⟩
  go_wp2_with fail
  go_region_held3 (fun w' => w'.cell? ⟨be, i * 3, none⟩ = some (.int .i64 (-1)) ∧ w'.cell? ⟨be, i * 3 + 1, none⟩ = some (.int .i64 (-1)) ∧ w'.cell? ⟨be, i * 3 + 2, none⟩ = some (.int .i64 0)) (go_keep)
    (first | (go_at_call 131; refine (empty_any _).mono ?_; rintro e w' ⟨rfl, rfl⟩))
  go_wp2
  go_ret2
  refine ⟨rfl, ?_⟩
  with_reducible repeat (first | exact Fr.refl _ _ | assumption | apply Fr.drew | apply Fr.drewN | apply Fr.alloc | (apply Fr.step; assumption; (intro _ h; (first | exact h | (focus (simp_all; done))))) | (apply Fr.setIn; (first | exact List.mem_cons_self | exact List.mem_cons_of_mem _ List.mem_cons_self | exact List.mem_cons_of_mem _ (List.mem_cons_of_mem _ List.mem_cons_self) | exact List.mem_cons_of_mem _ (List.mem_cons_of_mem _ (List.mem_cons_of_mem _ List.mem_cons_self)))) | (apply Fr.setNew; (first | omega | (simp; omega))))

theorem front_out (w : World) (bq bn be N K : Nat) (nd : Nat → Link) (en : Nat → Ends) (h : RepQ w bq bn be N K nd en) (i : Int) (hi : i < 0 ∨ K ≤ i) :
    Calls Try.prog 94 #[.pointer (some ⟨bq, 0, none⟩), .int .i64 i] w fun e w' => e = .returned (.tuple #[.int .i64 0, .bool false]) ∧ Fr [] w w' := by
  go_enter Try.func94, Try.ntmps94
  go_wp2_with fail
  refine (queue_out w bq bn be N K h.q h.K2 i hi).mono ?_
  rintro e w' ⟨rfl, rfl⟩
  go_wp2_with fail
  go_quiet (fail)
  go_wp2
  go_ret2
  refine ⟨rfl, ?_⟩
  with_reducible repeat (first | exact Fr.refl _ _ | assumption | apply Fr.drew | apply Fr.drewN | apply Fr.alloc | (apply Fr.step; assumption; (intro _ h; (first | exact h | (focus (simp_all; done))))) | (apply Fr.setIn; (first | exact List.mem_cons_self | exact List.mem_cons_of_mem _ List.mem_cons_self | exact List.mem_cons_of_mem _ (List.mem_cons_of_mem _ List.mem_cons_self) | exact List.mem_cons_of_mem _ (List.mem_cons_of_mem _ (List.mem_cons_of_mem _ List.mem_cons_self)))) | (apply Fr.setNew; (first | omega | (simp; omega))))

theorem front_nil (w : World) (i : Int) :
    Calls Try.prog 94 #[.pointer none, .int .i64 i] w fun e w' => e = .returned (.tuple #[.int .i64 0, .bool false]) ∧ Fr [] w w' := by
  go_enter Try.func94, Try.ntmps94
  go_wp2_with fail
  refine (queue_nil w i).mono ?_
  rintro e w' ⟨rfl, rfl⟩
  go_wp2_with fail
  go_quiet (fail)
  go_wp2
  go_ret2
  refine ⟨rfl, ?_⟩
  with_reducible repeat (first | exact Fr.refl _ _ | assumption | apply Fr.drew | apply Fr.drewN | apply Fr.alloc | (apply Fr.step; assumption; (intro _ h; (first | exact h | (focus (simp_all; done))))) | (apply Fr.setIn; (first | exact List.mem_cons_self | exact List.mem_cons_of_mem _ List.mem_cons_self | exact List.mem_cons_of_mem _ (List.mem_cons_of_mem _ List.mem_cons_self) | exact List.mem_cons_of_mem _ (List.mem_cons_of_mem _ (List.mem_cons_of_mem _ List.mem_cons_self)))) | (apply Fr.setNew; (first | omega | (simp; omega))))
end Go.Proofs.Ytkimldeagndgjaa
