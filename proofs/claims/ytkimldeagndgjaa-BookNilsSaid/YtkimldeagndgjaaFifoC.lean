/- The queues' Remove and Pop, walked. -/
import Derived.Test.YtkimldeagndgjaaFifoB
namespace Go.Proofs.Ytkimldeagndgjaa
set_option linter.unusedVariables false
set_option linter.unusedSimpArgs false
open Go.RowKit

theorem remove_no (w : World) (bq bn be N K : Nat) (nd : Nat → Link) (en : Nat → Ends) (h : RepQ w bq bn be N K nd en) (n : Int) (hn : (n < 0 ∨ N ≤ n) ∨ (∃ m : Nat, m < N ∧ n = m ∧ (nd m).queue = -1)) :
    Calls Try.prog 137 #[.pointer (some ⟨bq, 0, none⟩), .int .i64 n] w fun e w' => e = .returned (.tuple #[.int .i64 0, .bool false]) ∧ w = w' := by
  rcases hn with hn | ⟨m, hm, rfl, hl⟩
  · go_enter Try.func137, Try.ntmps137
    go_wp2_with fail
    refine (of_out w bq bn be N K nd en h n hn).mono ?_
    rintro e w' ⟨rfl, rfl⟩
    go_wp2
    go_ret2
    exact ⟨rfl, rfl⟩
  · have hL := Lib.hid hl
    clear hl
    go_enter Try.func137, Try.ntmps137
    go_wp2_with fail
    refine (of_loose w bq bn be N K nd en h m hm hL.out).mono ?_
    rintro e w' ⟨rfl, rfl⟩
    go_wp2
    go_ret2
    exact ⟨rfl, rfl⟩

theorem remove_nil (w : World) (n : Int) :
    Calls Try.prog 137 #[.pointer none, .int .i64 n] w fun e w' => e = .returned (.tuple #[.int .i64 0, .bool false]) ∧ w = w' := by
  go_enter Try.func137, Try.ntmps137
  go_wp2_with fail
  refine (of_nil w n).mono ?_
  rintro e w' ⟨rfl, rfl⟩
  go_wp2
  go_ret2
  exact ⟨rfl, rfl⟩

set_option maxHeartbeats 800000 in
set_option maxHeartbeats 800000 in
set_option maxHeartbeats 800000 in
theorem remove_00 (w : World) (bq bn be N K : Nat) (nd : Nat → Link) (en : Nat → Ends) (h : RepQ w bq bn be N K nd en) (i n : Nat) (hi : i < K) (hn : n < N)
    (hl : nd n = ⟨-1, -1, i⟩) (hc : 0 ≤ (en i).n ∧ (en i).n ≤ 1000) :
    Calls Try.prog 137 #[.pointer (some ⟨bq, 0, none⟩), .int .i64 n] w fun e w' => e = .returned (.tuple #[.int .i64 i, .bool true]) ∧ Fr [bn, be] w w' ∧ RepQ w' bq bn be N K (updL nd n ⟨-1, -1, -1⟩) (updE en i ⟨-1, -1, (en i).n - 1⟩) := by
  have hQ1 : (((nd n).queue : Int) == -1) = false := by rw [hl]; first | (simp; done) | (simp; omega)
  have hqv : (nd n).queue = i := by rw [hl]
  have n1 := h.n.at0 hn (show 0 < 3 by omega)
  have n2 := h.n.at hn (show 1 < 3 by omega)
  have n3 := h.n.at hn (show 2 < 3 by omega)
  have e1 := h.e.at0 hi (show 0 < 3 by omega)
  have e2 := h.e.at hi (show 1 < 3 by omega)
  have e3 := h.e.at hi (show 2 < 3 by omega)
  simp only [linkC, hl] at n1 n2 n3
  simp only [endsC] at e1 e2 e3
  have f1 := h.n.frozen (n * 3)
  have f2 := h.n.frozen (n * 3 + 1)
  have f3 := h.n.frozen (n * 3 + 2)
  have g1 := h.e.frozen (i * 3)
  have g2 := h.e.frozen (i * 3 + 1)
  have g3 := h.e.frozen (i * 3 + 2)
  have q1 := h.q.cell 0
  have d1 := h.ne1
  have d2 := h.ne2
  have d3 := h.ne3
  have l0 := h.q.lt
  have l1 := h.n.lt
  have l2 := h.e.lt
  have b1 := h.N2
  have HL := Lib.hid hl
  have HQ := Lib.hid hqv
  clear hl hqv
  have hmf : ∀ (fn : Fn) (first cap : Array Value) (w : World), (Instr.makeFunc fn first cap).run Try.prog w = .ok (.func fn first cap) w := fun _ _ _ _ => rfl
  go_enter Try.func137, Try.ntmps137
  go_wp2_with fail
  refine (of_in w bq bn be N K nd en h n hn hQ1).mono ?_
  rw [HQ.out]
  clear hQ1
  rintro e w' ⟨rfl, rfl⟩
  go_wp2_with fail
  go_region_held3 (fun w' => w'.cell? ⟨bn, n * 3, none⟩ = some (.int .i64 (-1)) ∧ w'.cell? ⟨bn, n * 3 + 1, none⟩ = some (.int .i64 (-1)) ∧ w'.cell? ⟨bn, n * 3 + 2, none⟩ = some (.int .i64 i)) (go_keep)
    (first | (go_at_call 136; refine (node_in _ bq bn be N K (by with_reducible repeat (first | exact Blk.new _ _ _ | (apply Blk.newAt rfl; (first | (simp; done) | (simp; omega))) | assumption | exact h.q | apply Blk.drew | apply Blk.drewN | apply Blk.alloc | (apply Blk.off; (first | assumption | omega)) | (apply Blk.put; omega) | (apply Blk.put0; omega) | apply Blk.same)) h.N2 n hn).mono ?_; rintro e w' ⟨rfl, rfl⟩) | (go_at_call 135; refine (queue_in _ bq bn be N K (by with_reducible repeat (first | exact Blk.new _ _ _ | (apply Blk.newAt rfl; (first | (simp; done) | (simp; omega))) | assumption | exact h.q | apply Blk.drew | apply Blk.drewN | apply Blk.alloc | (apply Blk.off; (first | assumption | omega)) | (apply Blk.put; omega) | (apply Blk.put0; omega) | apply Blk.same)) h.K2 i hi).mono ?_; rintro e w' ⟨rfl, rfl⟩))
  all_goals
    skip
    go_wp2_with fail
    refine (node_out _ bq bn be N K (by with_reducible repeat (first | exact Blk.new _ _ _ | (apply Blk.newAt rfl; (first | (simp; done) | (simp; omega))) | assumption | exact h.q | apply Blk.drew | apply Blk.drewN | apply Blk.alloc | (apply Blk.off; (first | assumption | omega)) | (apply Blk.put; omega) | (apply Blk.put0; omega) | apply Blk.same)) h.N2 (-1) (by omega)).mono ?_
    rintro e w' ⟨rfl, rfl⟩
    go_wp2_with fail
    refine (node_out _ bq bn be N K (by with_reducible repeat (first | exact Blk.new _ _ _ | (apply Blk.newAt rfl; (first | (simp; done) | (simp; omega))) | assumption | exact h.q | apply Blk.drew | apply Blk.drewN | apply Blk.alloc | (apply Blk.off; (first | assumption | omega)) | (apply Blk.put; omega) | (apply Blk.put0; omega) | apply Blk.same)) h.N2 (-1) (by omega)).mono ?_
    rintro e w' ⟨rfl, rfl⟩
    go_wp2_with fail
    go_region_held3 (fun w' => w'.cell? ⟨bq, 0, none⟩ = some (.slice (some ⟨bn, 0, none⟩) N N)) ((refine (Blk.cell (?_ : BlkQ _ bq bn be N K) 0).trans rfl; (with_reducible repeat (first | exact Blk.new _ _ _ | (apply Blk.newAt rfl; (first | (simp; done) | (simp; omega))) | assumption | exact h.q | apply Blk.drew | apply Blk.drewN | apply Blk.alloc | (apply Blk.off; (first | assumption | omega)) | (apply Blk.put; omega) | (apply Blk.put0; omega) | apply Blk.same))))
      (first | (go_at_call 130; refine (loose_any _).mono ?_; rintro e w' ⟨rfl, rfl⟩))
    go_wp2_with fail
    go_ret2
    refine ⟨rfl, ?_, ?_, ?_, ?_, h.N1, h.N2, h.K1, h.K2⟩
    · with_reducible repeat (first | exact Fr.refl _ _ | assumption | apply Fr.drew | apply Fr.drewN | apply Fr.alloc | (apply Fr.step; assumption; (intro _ h; (first | exact h | (focus (simp_all; done))))) | (apply Fr.setIn; (first | exact List.mem_cons_self | exact List.mem_cons_of_mem _ List.mem_cons_self | exact List.mem_cons_of_mem _ (List.mem_cons_of_mem _ List.mem_cons_self) | exact List.mem_cons_of_mem _ (List.mem_cons_of_mem _ (List.mem_cons_of_mem _ List.mem_cons_self)))) | (apply Fr.setNew; (first | omega | (simp; omega))))
    · with_reducible repeat (first | exact Blk.new _ _ _ | (apply Blk.newAt rfl; (first | (simp; done) | (simp; omega))) | assumption | exact h.q | apply Blk.drew | apply Blk.drewN | apply Blk.alloc | (apply Blk.off; (first | assumption | omega)) | (apply Blk.put; omega) | (apply Blk.put0; omega) | apply Blk.same)
    · apply Blk.cast
      · with_reducible repeat (first | exact Blk.new _ _ _ | (apply Blk.newAt rfl; (first | (simp; done) | (simp; omega))) | assumption | exact h.n | apply Blk.drew | apply Blk.drewN | apply Blk.alloc | (apply Blk.off; (first | assumption | omega)) | (apply Blk.put; omega) | (apply Blk.put0; omega) | apply Blk.same)
      refine grid_congr fun a b _ hb => ?_
      by_cases e0 : a = n
      · subst e0; rcases (show b = 0 ∨ b = 1 ∨ b = 2 by omega) with rfl | rfl | rfl <;> simp [linkC, updL]
      simp [linkC, updL, e0]
    · apply Blk.cast
      · with_reducible repeat (first | exact Blk.new _ _ _ | (apply Blk.newAt rfl; (first | (simp; done) | (simp; omega))) | assumption | exact h.e | apply Blk.drew | apply Blk.drewN | apply Blk.alloc | (apply Blk.off; (first | assumption | omega)) | (apply Blk.put; omega) | (apply Blk.put0; omega) | apply Blk.same)
      refine grid_congr fun a b _ hb => ?_
      by_cases e : a = i
      · subst e; rcases (show b = 0 ∨ b = 1 ∨ b = 2 by omega) with rfl | rfl | rfl <;> simp [endsC, updE]
      · simp [endsC, updE, e]

set_option maxHeartbeats 800000 in
theorem remove_10 (w : World) (bq bn be N K : Nat) (nd : Nat → Link) (en : Nat → Ends) (h : RepQ w bq bn be N K nd en) (i n p : Nat) (hi : i < K) (hn : n < N) (hp : p < N) (hpn : p ≠ n)
    (hl : nd n = ⟨(p : Int), -1, i⟩) (hc : 0 ≤ (en i).n ∧ (en i).n ≤ 1000) :
    Calls Try.prog 137 #[.pointer (some ⟨bq, 0, none⟩), .int .i64 n] w fun e w' => e = .returned (.tuple #[.int .i64 i, .bool true]) ∧ Fr [bn, be] w w' ∧ RepQ w' bq bn be N K (updL (updL nd p { nd p with behind := -1 }) n ⟨-1, -1, -1⟩) (updE en i ⟨(en i).first, p, (en i).n - 1⟩) := by
  have hQ1 : (((nd n).queue : Int) == -1) = false := by rw [hl]; first | (simp; done) | (simp; omega)
  have hqv : (nd n).queue = i := by rw [hl]
  have n1 := h.n.at0 hn (show 0 < 3 by omega)
  have n2 := h.n.at hn (show 1 < 3 by omega)
  have n3 := h.n.at hn (show 2 < 3 by omega)
  have e1 := h.e.at0 hi (show 0 < 3 by omega)
  have e2 := h.e.at hi (show 1 < 3 by omega)
  have e3 := h.e.at hi (show 2 < 3 by omega)
  simp only [linkC, hl] at n1 n2 n3
  simp only [endsC] at e1 e2 e3
  have p1 := h.n.at0 hp (show 0 < 3 by omega)
  have p2 := h.n.at hp (show 1 < 3 by omega)
  simp only [linkC] at p1 p2
  have xp1 := h.n.frozen (p * 3)
  have xp2 := h.n.frozen (p * 3 + 1)
  have f1 := h.n.frozen (n * 3)
  have f2 := h.n.frozen (n * 3 + 1)
  have f3 := h.n.frozen (n * 3 + 2)
  have g1 := h.e.frozen (i * 3)
  have g2 := h.e.frozen (i * 3 + 1)
  have g3 := h.e.frozen (i * 3 + 2)
  have q1 := h.q.cell 0
  have d1 := h.ne1
  have d2 := h.ne2
  have d3 := h.ne3
  have l0 := h.q.lt
  have l1 := h.n.lt
  have l2 := h.e.lt
  have b1 := h.N2
  have HL := Lib.hid hl
  have HQ := Lib.hid hqv
  clear hl hqv
  have hmf : ∀ (fn : Fn) (first cap : Array Value) (w : World), (Instr.makeFunc fn first cap).run Try.prog w = .ok (.func fn first cap) w := fun _ _ _ _ => rfl
  go_enter Try.func137, Try.ntmps137
  go_wp2_with fail
  refine (of_in w bq bn be N K nd en h n hn hQ1).mono ?_
  rw [HQ.out]
  clear hQ1
  rintro e w' ⟨rfl, rfl⟩
  go_wp2_with fail
  go_region_held3 (fun w' => w'.cell? ⟨bn, n * 3, none⟩ = some (.int .i64 ((p : Int))) ∧ w'.cell? ⟨bn, n * 3 + 1, none⟩ = some (.int .i64 (-1)) ∧ w'.cell? ⟨bn, n * 3 + 2, none⟩ = some (.int .i64 i)) (go_keep)
    (first | (go_at_call 136; refine (node_in _ bq bn be N K (by with_reducible repeat (first | exact Blk.new _ _ _ | (apply Blk.newAt rfl; (first | (simp; done) | (simp; omega))) | assumption | exact h.q | apply Blk.drew | apply Blk.drewN | apply Blk.alloc | (apply Blk.off; (first | assumption | omega)) | (apply Blk.put; omega) | (apply Blk.put0; omega) | apply Blk.same)) h.N2 n hn).mono ?_; rintro e w' ⟨rfl, rfl⟩) | (go_at_call 135; refine (queue_in _ bq bn be N K (by with_reducible repeat (first | exact Blk.new _ _ _ | (apply Blk.newAt rfl; (first | (simp; done) | (simp; omega))) | assumption | exact h.q | apply Blk.drew | apply Blk.drewN | apply Blk.alloc | (apply Blk.off; (first | assumption | omega)) | (apply Blk.put; omega) | (apply Blk.put0; omega) | apply Blk.same)) h.K2 i hi).mono ?_; rintro e w' ⟨rfl, rfl⟩))
  all_goals
    skip
    go_wp2_with fail
    refine (node_in _ bq bn be N K (by with_reducible repeat (first | exact Blk.new _ _ _ | (apply Blk.newAt rfl; (first | (simp; done) | (simp; omega))) | assumption | exact h.q | apply Blk.drew | apply Blk.drewN | apply Blk.alloc | (apply Blk.off; (first | assumption | omega)) | (apply Blk.put; omega) | (apply Blk.put0; omega) | apply Blk.same)) h.N2 p (by omega)).mono ?_
    rintro e w' ⟨rfl, rfl⟩
    go_wp2_with fail
    refine (node_out _ bq bn be N K (by with_reducible repeat (first | exact Blk.new _ _ _ | (apply Blk.newAt rfl; (first | (simp; done) | (simp; omega))) | assumption | exact h.q | apply Blk.drew | apply Blk.drewN | apply Blk.alloc | (apply Blk.off; (first | assumption | omega)) | (apply Blk.put; omega) | (apply Blk.put0; omega) | apply Blk.same)) h.N2 (-1) (by omega)).mono ?_
    rintro e w' ⟨rfl, rfl⟩
    go_wp2_with fail
    go_region_held3 (fun w' => w'.cell? ⟨bq, 0, none⟩ = some (.slice (some ⟨bn, 0, none⟩) N N)) ((refine (Blk.cell (?_ : BlkQ _ bq bn be N K) 0).trans rfl; (with_reducible repeat (first | exact Blk.new _ _ _ | (apply Blk.newAt rfl; (first | (simp; done) | (simp; omega))) | assumption | exact h.q | apply Blk.drew | apply Blk.drewN | apply Blk.alloc | (apply Blk.off; (first | assumption | omega)) | (apply Blk.put; omega) | (apply Blk.put0; omega) | apply Blk.same))))
      (first | (go_at_call 130; refine (loose_any _).mono ?_; rintro e w' ⟨rfl, rfl⟩))
    go_wp2_with fail
    go_ret2
    refine ⟨rfl, ?_, ?_, ?_, ?_, h.N1, h.N2, h.K1, h.K2⟩
    · with_reducible repeat (first | exact Fr.refl _ _ | assumption | apply Fr.drew | apply Fr.drewN | apply Fr.alloc | (apply Fr.step; assumption; (intro _ h; (first | exact h | (focus (simp_all; done))))) | (apply Fr.setIn; (first | exact List.mem_cons_self | exact List.mem_cons_of_mem _ List.mem_cons_self | exact List.mem_cons_of_mem _ (List.mem_cons_of_mem _ List.mem_cons_self) | exact List.mem_cons_of_mem _ (List.mem_cons_of_mem _ (List.mem_cons_of_mem _ List.mem_cons_self)))) | (apply Fr.setNew; (first | omega | (simp; omega))))
    · with_reducible repeat (first | exact Blk.new _ _ _ | (apply Blk.newAt rfl; (first | (simp; done) | (simp; omega))) | assumption | exact h.q | apply Blk.drew | apply Blk.drewN | apply Blk.alloc | (apply Blk.off; (first | assumption | omega)) | (apply Blk.put; omega) | (apply Blk.put0; omega) | apply Blk.same)
    · apply Blk.cast
      · with_reducible repeat (first | exact Blk.new _ _ _ | (apply Blk.newAt rfl; (first | (simp; done) | (simp; omega))) | assumption | exact h.n | apply Blk.drew | apply Blk.drewN | apply Blk.alloc | (apply Blk.off; (first | assumption | omega)) | (apply Blk.put; omega) | (apply Blk.put0; omega) | apply Blk.same)
      refine grid_congr fun a b _ hb => ?_
      by_cases e0 : a = n
      · subst e0; rcases (show b = 0 ∨ b = 1 ∨ b = 2 by omega) with rfl | rfl | rfl <;> simp [linkC, updL]
      by_cases e_p : a = p
      · subst e_p; rcases (show b = 0 ∨ b = 1 ∨ b = 2 by omega) with rfl | rfl | rfl <;> simp [linkC, updL, e0, *]
      simp [linkC, updL, e0, e_p]
    · apply Blk.cast
      · with_reducible repeat (first | exact Blk.new _ _ _ | (apply Blk.newAt rfl; (first | (simp; done) | (simp; omega))) | assumption | exact h.e | apply Blk.drew | apply Blk.drewN | apply Blk.alloc | (apply Blk.off; (first | assumption | omega)) | (apply Blk.put; omega) | (apply Blk.put0; omega) | apply Blk.same)
      refine grid_congr fun a b _ hb => ?_
      by_cases e : a = i
      · subst e; rcases (show b = 0 ∨ b = 1 ∨ b = 2 by omega) with rfl | rfl | rfl <;> simp [endsC, updE]
      · simp [endsC, updE, e]

set_option maxHeartbeats 800000 in
theorem remove_01 (w : World) (bq bn be N K : Nat) (nd : Nat → Link) (en : Nat → Ends) (h : RepQ w bq bn be N K nd en) (i n q : Nat) (hi : i < K) (hn : n < N) (hq : q < N) (hqn : q ≠ n)
    (hl : nd n = ⟨-1, (q : Int), i⟩) (hc : 0 ≤ (en i).n ∧ (en i).n ≤ 1000) :
    Calls Try.prog 137 #[.pointer (some ⟨bq, 0, none⟩), .int .i64 n] w fun e w' => e = .returned (.tuple #[.int .i64 i, .bool true]) ∧ Fr [bn, be] w w' ∧ RepQ w' bq bn be N K (updL (updL nd q { nd q with ahead := -1 }) n ⟨-1, -1, -1⟩) (updE en i ⟨q, (en i).last, (en i).n - 1⟩) := by
  have hQ1 : (((nd n).queue : Int) == -1) = false := by rw [hl]; first | (simp; done) | (simp; omega)
  have hqv : (nd n).queue = i := by rw [hl]
  have n1 := h.n.at0 hn (show 0 < 3 by omega)
  have n2 := h.n.at hn (show 1 < 3 by omega)
  have n3 := h.n.at hn (show 2 < 3 by omega)
  have e1 := h.e.at0 hi (show 0 < 3 by omega)
  have e2 := h.e.at hi (show 1 < 3 by omega)
  have e3 := h.e.at hi (show 2 < 3 by omega)
  simp only [linkC, hl] at n1 n2 n3
  simp only [endsC] at e1 e2 e3
  have q1 := h.n.at0 hq (show 0 < 3 by omega)
  have q2 := h.n.at hq (show 1 < 3 by omega)
  simp only [linkC] at q1 q2
  have xq1 := h.n.frozen (q * 3)
  have xq2 := h.n.frozen (q * 3 + 1)
  have f1 := h.n.frozen (n * 3)
  have f2 := h.n.frozen (n * 3 + 1)
  have f3 := h.n.frozen (n * 3 + 2)
  have g1 := h.e.frozen (i * 3)
  have g2 := h.e.frozen (i * 3 + 1)
  have g3 := h.e.frozen (i * 3 + 2)
  have q1 := h.q.cell 0
  have d1 := h.ne1
  have d2 := h.ne2
  have d3 := h.ne3
  have l0 := h.q.lt
  have l1 := h.n.lt
  have l2 := h.e.lt
  have b1 := h.N2
  have HL := Lib.hid hl
  have HQ := Lib.hid hqv
  clear hl hqv
  have hmf : ∀ (fn : Fn) (first cap : Array Value) (w : World), (Instr.makeFunc fn first cap).run Try.prog w = .ok (.func fn first cap) w := fun _ _ _ _ => rfl
  go_enter Try.func137, Try.ntmps137
  go_wp2_with fail
  refine (of_in w bq bn be N K nd en h n hn hQ1).mono ?_
  rw [HQ.out]
  clear hQ1
  rintro e w' ⟨rfl, rfl⟩
  go_wp2_with fail
  go_region_held3 (fun w' => w'.cell? ⟨bn, n * 3, none⟩ = some (.int .i64 (-1)) ∧ w'.cell? ⟨bn, n * 3 + 1, none⟩ = some (.int .i64 ((q : Int))) ∧ w'.cell? ⟨bn, n * 3 + 2, none⟩ = some (.int .i64 i)) (go_keep)
    (first | (go_at_call 136; refine (node_in _ bq bn be N K (by with_reducible repeat (first | exact Blk.new _ _ _ | (apply Blk.newAt rfl; (first | (simp; done) | (simp; omega))) | assumption | exact h.q | apply Blk.drew | apply Blk.drewN | apply Blk.alloc | (apply Blk.off; (first | assumption | omega)) | (apply Blk.put; omega) | (apply Blk.put0; omega) | apply Blk.same)) h.N2 n hn).mono ?_; rintro e w' ⟨rfl, rfl⟩) | (go_at_call 135; refine (queue_in _ bq bn be N K (by with_reducible repeat (first | exact Blk.new _ _ _ | (apply Blk.newAt rfl; (first | (simp; done) | (simp; omega))) | assumption | exact h.q | apply Blk.drew | apply Blk.drewN | apply Blk.alloc | (apply Blk.off; (first | assumption | omega)) | (apply Blk.put; omega) | (apply Blk.put0; omega) | apply Blk.same)) h.K2 i hi).mono ?_; rintro e w' ⟨rfl, rfl⟩))
  all_goals
    skip
    go_wp2_with fail
    refine (node_out _ bq bn be N K (by with_reducible repeat (first | exact Blk.new _ _ _ | (apply Blk.newAt rfl; (first | (simp; done) | (simp; omega))) | assumption | exact h.q | apply Blk.drew | apply Blk.drewN | apply Blk.alloc | (apply Blk.off; (first | assumption | omega)) | (apply Blk.put; omega) | (apply Blk.put0; omega) | apply Blk.same)) h.N2 (-1) (by omega)).mono ?_
    rintro e w' ⟨rfl, rfl⟩
    go_wp2_with fail
    refine (node_in _ bq bn be N K (by with_reducible repeat (first | exact Blk.new _ _ _ | (apply Blk.newAt rfl; (first | (simp; done) | (simp; omega))) | assumption | exact h.q | apply Blk.drew | apply Blk.drewN | apply Blk.alloc | (apply Blk.off; (first | assumption | omega)) | (apply Blk.put; omega) | (apply Blk.put0; omega) | apply Blk.same)) h.N2 q (by omega)).mono ?_
    rintro e w' ⟨rfl, rfl⟩
    go_wp2_with fail
    go_region_held3 (fun w' => w'.cell? ⟨bq, 0, none⟩ = some (.slice (some ⟨bn, 0, none⟩) N N)) ((refine (Blk.cell (?_ : BlkQ _ bq bn be N K) 0).trans rfl; (with_reducible repeat (first | exact Blk.new _ _ _ | (apply Blk.newAt rfl; (first | (simp; done) | (simp; omega))) | assumption | exact h.q | apply Blk.drew | apply Blk.drewN | apply Blk.alloc | (apply Blk.off; (first | assumption | omega)) | (apply Blk.put; omega) | (apply Blk.put0; omega) | apply Blk.same))))
      (first | (go_at_call 130; refine (loose_any _).mono ?_; rintro e w' ⟨rfl, rfl⟩))
    go_wp2_with fail
    go_ret2
    refine ⟨rfl, ?_, ?_, ?_, ?_, h.N1, h.N2, h.K1, h.K2⟩
    · with_reducible repeat (first | exact Fr.refl _ _ | assumption | apply Fr.drew | apply Fr.drewN | apply Fr.alloc | (apply Fr.step; assumption; (intro _ h; (first | exact h | (focus (simp_all; done))))) | (apply Fr.setIn; (first | exact List.mem_cons_self | exact List.mem_cons_of_mem _ List.mem_cons_self | exact List.mem_cons_of_mem _ (List.mem_cons_of_mem _ List.mem_cons_self) | exact List.mem_cons_of_mem _ (List.mem_cons_of_mem _ (List.mem_cons_of_mem _ List.mem_cons_self)))) | (apply Fr.setNew; (first | omega | (simp; omega))))
    · with_reducible repeat (first | exact Blk.new _ _ _ | (apply Blk.newAt rfl; (first | (simp; done) | (simp; omega))) | assumption | exact h.q | apply Blk.drew | apply Blk.drewN | apply Blk.alloc | (apply Blk.off; (first | assumption | omega)) | (apply Blk.put; omega) | (apply Blk.put0; omega) | apply Blk.same)
    · apply Blk.cast
      · with_reducible repeat (first | exact Blk.new _ _ _ | (apply Blk.newAt rfl; (first | (simp; done) | (simp; omega))) | assumption | exact h.n | apply Blk.drew | apply Blk.drewN | apply Blk.alloc | (apply Blk.off; (first | assumption | omega)) | (apply Blk.put; omega) | (apply Blk.put0; omega) | apply Blk.same)
      refine grid_congr fun a b _ hb => ?_
      by_cases e0 : a = n
      · subst e0; rcases (show b = 0 ∨ b = 1 ∨ b = 2 by omega) with rfl | rfl | rfl <;> simp [linkC, updL]
      by_cases e_q : a = q
      · subst e_q; rcases (show b = 0 ∨ b = 1 ∨ b = 2 by omega) with rfl | rfl | rfl <;> simp [linkC, updL, e0, *]
      simp [linkC, updL, e0, e_q]
    · apply Blk.cast
      · with_reducible repeat (first | exact Blk.new _ _ _ | (apply Blk.newAt rfl; (first | (simp; done) | (simp; omega))) | assumption | exact h.e | apply Blk.drew | apply Blk.drewN | apply Blk.alloc | (apply Blk.off; (first | assumption | omega)) | (apply Blk.put; omega) | (apply Blk.put0; omega) | apply Blk.same)
      refine grid_congr fun a b _ hb => ?_
      by_cases e : a = i
      · subst e; rcases (show b = 0 ∨ b = 1 ∨ b = 2 by omega) with rfl | rfl | rfl <;> simp [endsC, updE]
      · simp [endsC, updE, e]

set_option maxHeartbeats 800000 in
theorem remove_11 (w : World) (bq bn be N K : Nat) (nd : Nat → Link) (en : Nat → Ends) (h : RepQ w bq bn be N K nd en) (i n p q : Nat) (hi : i < K) (hn : n < N) (hp : p < N) (hpn : p ≠ n) (hq : q < N) (hqn : q ≠ n) (hpq : p ≠ q)
    (hl : nd n = ⟨(p : Int), (q : Int), i⟩) (hc : 0 ≤ (en i).n ∧ (en i).n ≤ 1000) :
    Calls Try.prog 137 #[.pointer (some ⟨bq, 0, none⟩), .int .i64 n] w fun e w' => e = .returned (.tuple #[.int .i64 i, .bool true]) ∧ Fr [bn, be] w w' ∧ RepQ w' bq bn be N K (updL (updL (updL nd p { nd p with behind := q }) q { nd q with ahead := p }) n ⟨-1, -1, -1⟩) (updE en i ⟨(en i).first, (en i).last, (en i).n - 1⟩) := by
  have hQ1 : (((nd n).queue : Int) == -1) = false := by rw [hl]; first | (simp; done) | (simp; omega)
  have hqv : (nd n).queue = i := by rw [hl]
  have n1 := h.n.at0 hn (show 0 < 3 by omega)
  have n2 := h.n.at hn (show 1 < 3 by omega)
  have n3 := h.n.at hn (show 2 < 3 by omega)
  have e1 := h.e.at0 hi (show 0 < 3 by omega)
  have e2 := h.e.at hi (show 1 < 3 by omega)
  have e3 := h.e.at hi (show 2 < 3 by omega)
  simp only [linkC, hl] at n1 n2 n3
  simp only [endsC] at e1 e2 e3
  have p1 := h.n.at0 hp (show 0 < 3 by omega)
  have p2 := h.n.at hp (show 1 < 3 by omega)
  simp only [linkC] at p1 p2
  have xp1 := h.n.frozen (p * 3)
  have xp2 := h.n.frozen (p * 3 + 1)
  have qq1 := h.n.at0 hq (show 0 < 3 by omega)
  have qq2 := h.n.at hq (show 1 < 3 by omega)
  simp only [linkC] at qq1 qq2
  have xq1 := h.n.frozen (q * 3)
  have xq2 := h.n.frozen (q * 3 + 1)
  have f1 := h.n.frozen (n * 3)
  have f2 := h.n.frozen (n * 3 + 1)
  have f3 := h.n.frozen (n * 3 + 2)
  have g1 := h.e.frozen (i * 3)
  have g2 := h.e.frozen (i * 3 + 1)
  have g3 := h.e.frozen (i * 3 + 2)
  have q1 := h.q.cell 0
  have d1 := h.ne1
  have d2 := h.ne2
  have d3 := h.ne3
  have l0 := h.q.lt
  have l1 := h.n.lt
  have l2 := h.e.lt
  have b1 := h.N2
  have HL := Lib.hid hl
  have HQ := Lib.hid hqv
  clear hl hqv
  have hmf : ∀ (fn : Fn) (first cap : Array Value) (w : World), (Instr.makeFunc fn first cap).run Try.prog w = .ok (.func fn first cap) w := fun _ _ _ _ => rfl
  go_enter Try.func137, Try.ntmps137
  go_wp2_with fail
  refine (of_in w bq bn be N K nd en h n hn hQ1).mono ?_
  rw [HQ.out]
  clear hQ1
  rintro e w' ⟨rfl, rfl⟩
  go_wp2_with fail
  go_region_held3 (fun w' => w'.cell? ⟨bn, n * 3, none⟩ = some (.int .i64 ((p : Int))) ∧ w'.cell? ⟨bn, n * 3 + 1, none⟩ = some (.int .i64 ((q : Int))) ∧ w'.cell? ⟨bn, n * 3 + 2, none⟩ = some (.int .i64 i)) (go_keep)
    (first | (go_at_call 136; refine (node_in _ bq bn be N K (by with_reducible repeat (first | exact Blk.new _ _ _ | (apply Blk.newAt rfl; (first | (simp; done) | (simp; omega))) | assumption | exact h.q | apply Blk.drew | apply Blk.drewN | apply Blk.alloc | (apply Blk.off; (first | assumption | omega)) | (apply Blk.put; omega) | (apply Blk.put0; omega) | apply Blk.same)) h.N2 n hn).mono ?_; rintro e w' ⟨rfl, rfl⟩) | (go_at_call 135; refine (queue_in _ bq bn be N K (by with_reducible repeat (first | exact Blk.new _ _ _ | (apply Blk.newAt rfl; (first | (simp; done) | (simp; omega))) | assumption | exact h.q | apply Blk.drew | apply Blk.drewN | apply Blk.alloc | (apply Blk.off; (first | assumption | omega)) | (apply Blk.put; omega) | (apply Blk.put0; omega) | apply Blk.same)) h.K2 i hi).mono ?_; rintro e w' ⟨rfl, rfl⟩))
  all_goals
    skip
    go_wp2_with fail
    refine (node_in _ bq bn be N K (by with_reducible repeat (first | exact Blk.new _ _ _ | (apply Blk.newAt rfl; (first | (simp; done) | (simp; omega))) | assumption | exact h.q | apply Blk.drew | apply Blk.drewN | apply Blk.alloc | (apply Blk.off; (first | assumption | omega)) | (apply Blk.put; omega) | (apply Blk.put0; omega) | apply Blk.same)) h.N2 p (by omega)).mono ?_
    rintro e w' ⟨rfl, rfl⟩
    go_wp2_with fail
    refine (node_in _ bq bn be N K (by with_reducible repeat (first | exact Blk.new _ _ _ | (apply Blk.newAt rfl; (first | (simp; done) | (simp; omega))) | assumption | exact h.q | apply Blk.drew | apply Blk.drewN | apply Blk.alloc | (apply Blk.off; (first | assumption | omega)) | (apply Blk.put; omega) | (apply Blk.put0; omega) | apply Blk.same)) h.N2 q (by omega)).mono ?_
    rintro e w' ⟨rfl, rfl⟩
    go_wp2_with fail
    go_region_held3 (fun w' => w'.cell? ⟨bq, 0, none⟩ = some (.slice (some ⟨bn, 0, none⟩) N N)) ((refine (Blk.cell (?_ : BlkQ _ bq bn be N K) 0).trans rfl; (with_reducible repeat (first | exact Blk.new _ _ _ | (apply Blk.newAt rfl; (first | (simp; done) | (simp; omega))) | assumption | exact h.q | apply Blk.drew | apply Blk.drewN | apply Blk.alloc | (apply Blk.off; (first | assumption | omega)) | (apply Blk.put; omega) | (apply Blk.put0; omega) | apply Blk.same))))
      (first | (go_at_call 130; refine (loose_any _).mono ?_; rintro e w' ⟨rfl, rfl⟩))
    go_wp2_with fail
    go_ret2
    refine ⟨rfl, ?_, ?_, ?_, ?_, h.N1, h.N2, h.K1, h.K2⟩
    · with_reducible repeat (first | exact Fr.refl _ _ | assumption | apply Fr.drew | apply Fr.drewN | apply Fr.alloc | (apply Fr.step; assumption; (intro _ h; (first | exact h | (focus (simp_all; done))))) | (apply Fr.setIn; (first | exact List.mem_cons_self | exact List.mem_cons_of_mem _ List.mem_cons_self | exact List.mem_cons_of_mem _ (List.mem_cons_of_mem _ List.mem_cons_self) | exact List.mem_cons_of_mem _ (List.mem_cons_of_mem _ (List.mem_cons_of_mem _ List.mem_cons_self)))) | (apply Fr.setNew; (first | omega | (simp; omega))))
    · with_reducible repeat (first | exact Blk.new _ _ _ | (apply Blk.newAt rfl; (first | (simp; done) | (simp; omega))) | assumption | exact h.q | apply Blk.drew | apply Blk.drewN | apply Blk.alloc | (apply Blk.off; (first | assumption | omega)) | (apply Blk.put; omega) | (apply Blk.put0; omega) | apply Blk.same)
    · apply Blk.cast
      · with_reducible repeat (first | exact Blk.new _ _ _ | (apply Blk.newAt rfl; (first | (simp; done) | (simp; omega))) | assumption | exact h.n | apply Blk.drew | apply Blk.drewN | apply Blk.alloc | (apply Blk.off; (first | assumption | omega)) | (apply Blk.put; omega) | (apply Blk.put0; omega) | apply Blk.same)
      refine grid_congr fun a b _ hb => ?_
      by_cases e0 : a = n
      · subst e0; rcases (show b = 0 ∨ b = 1 ∨ b = 2 by omega) with rfl | rfl | rfl <;> simp [linkC, updL]
      by_cases e_p : a = p
      · subst e_p; rcases (show b = 0 ∨ b = 1 ∨ b = 2 by omega) with rfl | rfl | rfl <;> simp [linkC, updL, e0, *]
      by_cases e_q : a = q
      · subst e_q; rcases (show b = 0 ∨ b = 1 ∨ b = 2 by omega) with rfl | rfl | rfl <;> simp [linkC, updL, e0, e_p, *]
      simp [linkC, updL, e0, e_p, e_q]
    · apply Blk.cast
      · with_reducible repeat (first | exact Blk.new _ _ _ | (apply Blk.newAt rfl; (first | (simp; done) | (simp; omega))) | assumption | exact h.e | apply Blk.drew | apply Blk.drewN | apply Blk.alloc | (apply Blk.off; (first | assumption | omega)) | (apply Blk.put; omega) | (apply Blk.put0; omega) | apply Blk.same)
      refine grid_congr fun a b _ hb => ?_
      by_cases e : a = i
      · subst e; rcases (show b = 0 ∨ b = 1 ∨ b = 2 by omega) with rfl | rfl | rfl <;> simp [endsC, updE]
      · simp [endsC, updE, e]
end Go.Proofs.Ytkimldeagndgjaa
