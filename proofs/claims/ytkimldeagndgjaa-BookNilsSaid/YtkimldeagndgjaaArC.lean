/- The arena of slots: New, walked. -/
import Derived.Test.YtkimldeagndgjaaArB
import Derived.Outline
namespace Go.Proofs.Ytkimldeagndgjaa
set_option linter.unusedVariables false
set_option linter.unusedSimpArgs false
open Go.RowKit

theorem places_arena (w : World) : ((Try.prog.fieldsOf 195).mapM (m := Sem) fun f => do pure (f.offset, ← sizeOf f.type)).run Try.prog w = .ok #[(0, 4000), (4000, 1), (4001, 1), (4002, 1)] w := by kernel_rfl
theorem und_arena : Try.prog.underlying 195 = some (.struct (Try.prog.fieldsOf 195)) := by kernel_rfl
theorem build_gen (cs : Array Value) (hs : cs.size = 4003) (hz : ∀ w, (zeroValue 195).run Try.prog w = .ok (.agg cs) w) (w : World) (n : Int) :
    (Instr.build 195 #[(1, .int .i64 n)]).run Try.prog w = .ok (.agg (cs.setIfInBounds 4000 (.int .i64 n))) w := by
  unfold Instr.build
  rw [Sem.run_bind, hz w]
  simp only [Result.andThen_ok]
  rw [Sem.run_bind, run_underlying und_arena]
  simp only [Result.andThen_ok]
  rw [Sem.run_bind, places_arena w]
  simp only [Result.andThen_ok]
  simp [Instr.fill, hs, Value.cells]
theorem arenaA_setS (f : Nat → Nat → Value) (s fr u n : Int) : (arenaA f s fr u).setIfInBounds 4000 (.int .i64 n) = arenaA f n fr u := (arenaA_setT (j := 0) _).trans rfl
theorem set_eq {cs : Array Value} (h : cs = arenaA (fun _ _ => .int .i64 0) 0 0 0) (n : Int) : cs.setIfInBounds 4000 (.int .i64 n) = arenaA (fun _ _ => .int .i64 0) n 0 0 := by
  rw [h]; exact arenaA_setS _ _ _ _ _
theorem run_eq {P : Program} {s : Sem Value} {cs cs' : Array Value} {w : World} (h : s.run P w = .ok (.agg cs) w) (e : cs = cs') : s.run P w = .ok (.agg cs') w := by rw [h, e]
theorem build_arena (w : World) (n : Int) : (Instr.build 195 #[(1, .int .i64 n)]).run Try.prog w = .ok (.agg (arenaA (fun _ _ => .int .i64 0) n 0 0)) w :=
  run_eq (build_gen _ Try.zeroCells195_size Try.zeroValue195 w n) (set_eq zero_arena n)
def ord0 : Ord := ⟨0, 0, 0, 0, 0, 0, 0⟩
theorem wpList_exec {P : Program} {ops : Array Oper} {rest : List Oper} {o : Oper} {a : Act} {w w' : World} {Q : Exit → Act → World → Prop} (hgd : o.guard = none) (v : Value)
    (hrun : (execOp a.eval o).run P w = .ok (.value v) w') (h : wpList P ops Q rest (a.put o.dst v) w') : wpList P ops Q (o :: rest) a w := by
  refine wpList_plain hgd fun Kq hKq => ?_
  unfold Oper.wp
  rw [hrun]
  exact hKq _ _ h
theorem wpList_buildA {ops : Array Oper} {rest : List Oper} {o : Oper} {a : Act} {w : World} {Q : Exit → Act → World → Prop} (hgd : o.guard = none) (x : Operand) (ho : o.op = .build 195 #[(1, x)]) (n : Int) (hx : a.eval x = .int .i64 n)
    (h : wpList Try.prog ops Q rest (a.put o.dst (.agg (arenaA (fun _ _ => .int .i64 0) n 0 0))) w) : wpList Try.prog ops Q (o :: rest) a w := by
  refine wpList_exec hgd _ ?_ h
  unfold execOp
  simp only [ho]
  have := build_arena w n
  simp [hx, this, Result.andThen]

theorem arNew_bad (w : World) (n : Int) (hn : n < 1 ∨ 500 < n) : Calls Try.prog 79 #[.int .i64 n] w fun e w' => e = .returned (.tuple #[.pointer none, .int .i64 9]) ∧ Fr [] w w' := by
  rcases (show n < 1 ∨ (¬ n < 1 ∧ 500 < n) by omega) with h | ⟨h, h'⟩
  all_goals
    go_enter Try.func79, Try.ntmps79
    go_wp2_with fail
    go_ret2
    exact ⟨rfl, Fr.refl _ _⟩

theorem chain_range (nx : Nat → Int) : ∀ (k s : Nat), (∀ j, s ≤ j → j + 1 < s + k → nx j = j + 1) → (∀ j, j + 1 = s + k → s ≤ j → nx j = -1) → ChainA nx (List.range' s k)
  | 0, _, _, _ => trivial
  | 1, s, _, h2 => ⟨h2 s rfl (Nat.le_refl _), trivial⟩
  | k + 2, s, h1, h2 => by
    refine ⟨?_, chain_range nx (k + 1) (s + 1) (fun j a b => h1 j (by omega) (by omega)) (fun j a b => h2 j (by omega) (by omega))⟩
    rw [h1 s (Nat.le_refl _) (by omega)]
    simp [List.range'_succ, hdI]

set_option maxRecDepth 20000 in
set_option maxHeartbeats 1000000 in
theorem arNew_ok (w : World) (N : Nat) (h1 : 1 ≤ N) (h2 : N ≤ 500) : Calls Try.prog 79 #[.int .i64 N] w fun e w' => e = .returned (.tuple #[.pointer (some ⟨w.heap.size, 0, none⟩), .int .i64 0]) ∧ Fr [] w w' ∧ ArI w' w.heap.size N (List.range' 0 N) (fun _ => none) := by
  have a1 : ¬ ((N : Int) < 1) := by omega
  have a2 : ¬ (500 < (N : Int)) := by omega
  go_enter Try.func79, Try.ntmps79
  go_wp2_with (refine wpList_buildA rfl (.tmp 12) rfl N rfl ?_)
  go_loopw [5, 16] (fun s5 s16 wr => ∃ i : Nat, i ≤ N ∧ s16 = .int .i64 i ∧ Fr [] w wr ∧ w.heap.size < wr.heap.size ∧ BlkA wr w.heap.size (fun _ => ord0) (fun j => if j < i then (j : Int) + 1 else 0) N 0 0) (fun _ s16 _ => N - (intOf s16).toNat)
  case atStart =>
    refine ⟨0, by omega, rfl, by with_reducible repeat (first | exact Fr.refl _ _ | assumption | apply Fr.drew | apply Fr.drewN | apply Fr.alloc | (apply Fr.step; assumption; (intro _ h; (first | exact h | (focus (simp_all; done))))) | (apply Fr.setIn; (first | exact List.mem_cons_self | exact List.mem_cons_of_mem _ List.mem_cons_self | exact List.mem_cons_of_mem _ (List.mem_cons_of_mem _ List.mem_cons_self) | exact List.mem_cons_of_mem _ (List.mem_cons_of_mem _ (List.mem_cons_of_mem _ List.mem_cons_self)))) | (apply Fr.setNew; (first | omega | (simp; omega)))), by simp, ?_⟩
    refine (Blk.new _ _ _).cast (arenaA_congr fun a b _ hb => ?_)
    rcases (show b = 0 ∨ b = 1 ∨ b = 2 ∨ b = 3 ∨ b = 4 ∨ b = 5 ∨ b = 6 ∨ b = 7 by omega) with rfl | rfl | rfl | rfl | rfl | rfl | rfl | rfl <;> simp [slotC, ord0]
  case round =>
    obtain ⟨i, hi, rfl, F, hl, B⟩ := hrel
    have i0 : (0 : Int) ≤ (i : Int) := by omega
    by_cases hlt : i < N
    · have i1 : (i : Int) < (N : Int) := by omega
      have i2 : i < 500 := by omega
      have i3 : (i : Int) < 500 := by omega
      have hwr : IntKind.i64.wrap ((i : Int) + 1) = (i : Int) + 1 := IntWalk.i64_in _ (by omega)
      have c1 := B.next i2
      have f1 := B.frozen (i * 8 + 7)
      go_wp2_with fail
      go_roundw
      case rel =>
        refine ⟨i + 1, by omega, by simp, F.setNew (Nat.le_refl _), by simpa [World.setCell] using hl, (BlkA.setNext B i2 ((i : Int) + 1)).cast (arenaA_congr fun a b _ hb => ?_)⟩
        by_cases e : a = i
        · subst e
          rcases (show b = 0 ∨ b = 1 ∨ b = 2 ∨ b = 3 ∨ b = 4 ∨ b = 5 ∨ b = 6 ∨ b = 7 by omega) with rfl | rfl | rfl | rfl | rfl | rfl | rfl | rfl <;> simp [slotC, updO]
        · have e2 : (a < i + 1) ↔ (a < i) := by omega
          simp [slotC, updO, e, e2]
      case measure => simp [intOf]; omega
    · obtain rfl : i = N := by omega
      have n1 : ((i - 1 : Nat) : Int) < 500 := by omega
      have n2 : i - 1 < 500 := by omega
      have n3 : (0 : Int) ≤ ((i - 1 : Nat) : Int) := by omega
      have hwr : IntKind.i64.wrap ((i : Int) - 1) = ((i - 1 : Nat) : Int) := by rw [IntWalk.i64_in _ (by omega)]; omega
      have c1 := B.next n2
      have f1 := B.frozen ((i - 1) * 8 + 7)
      go_wp2_with fail
      go_ret2
      have e1 : hdI (List.range' 0 i) = 0 := by
        obtain ⟨k, hk⟩ : ∃ k, i = k + 1 := ⟨i - 1, by omega⟩
        rw [hk]; simp [List.range'_succ, hdI]
      have e2 : (i : Int) - (List.range' 0 i).length = 0 := by simp
      refine ⟨rfl, F.setNew (Nat.le_refl _), ⟨fun _ => ord0, updO (fun j => if j < i then (j : Int) + 1 else 0) (i - 1) (-1), ?_, ?_, ?_, ?_⟩, ?_, ?_, ?_, h1, h2, ?_⟩
      · rw [e1, e2]; exact BlkA.setNext B n2 (-1)
      · refine chain_range _ _ _ ?_ ?_
        · intro j _ hj
          rw [updO_ne (by omega), if_pos (by omega)]
        · intro j hj _
          rw [show j = i - 1 by omega, updO_same]
      · intro j o h; cases h
      · intro j hj
        have hj' : j < i := by simpa [List.mem_range'] using hj
        by_cases e : j = i - 1
        · rw [e, updO_same]; decide
        · rw [updO_ne e, if_pos hj']; omega
      · exact List.nodup_range'
      · intro j; simp [List.mem_range']
      · intro _ _; rfl
      · simp
end Go.Proofs.Ytkimldeagndgjaa
