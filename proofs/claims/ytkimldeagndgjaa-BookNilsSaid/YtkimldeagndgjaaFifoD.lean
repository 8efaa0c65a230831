/- The queues' New, walked. -/
import Derived.Test.YtkimldeagndgjaaFifoM
import Derived.OwnWalk
import Derived.Deep.DeepCutAuto
import Derived.Deep.RegionHeld3
namespace Go.Proofs.Ytkimldeagndgjaa
set_option linter.unusedVariables false
set_option linter.unusedSimpArgs false
open Go.RowKit

theorem new_no (w : World) (a b : Int) (h : a < 1 ∨ 500 < a ∨ b < 1 ∨ 400 < b) :
    Calls Try.prog 82 #[.int .i64 a, .int .i64 b] w fun e w' => e = .returned (.tuple #[.pointer none, .int .i64 9]) ∧ w = w' := by
  have h' : a < 1 ∨ (1 ≤ a ∧ 500 < a) ∨ (1 ≤ a ∧ a ≤ 500 ∧ b < 1) ∨ (1 ≤ a ∧ a ≤ 500 ∧ 1 ≤ b ∧ 400 < b) := by omega
  clear h
  rcases h' with h | h | h | h
  all_goals
    go_enter Try.func82, Try.ntmps82
    go_wp2_with fail
    go_ret2
    exact ⟨rfl, rfl⟩

theorem info_link : (Try.prog.info? 210).map (fun i => (i.zero, i.size, i.bytes)) = some (some (.agg #[.int .i64 0, .int .i64 0, .int .i64 0]), 3, 24) := by kernel_rfl
theorem info_ends : (Try.prog.info? 213).map (fun i => (i.zero, i.size, i.bytes)) = some (some (.agg #[.int .i64 0, .int .i64 0, .int .i64 0]), 3, 24) := by kernel_rfl

/-- What stands behind the making of the struct. -/
def NewRel (w : World) (N K : Nat) (s6 : Value) (wx : World) : Prop :=
  ∃ bq bn be, w.heap.size ≤ bq ∧ w.heap.size ≤ bn ∧ w.heap.size ≤ be ∧ bq ≠ bn ∧ bq ≠ be ∧ bn ≠ be ∧ s6 = .pointer (some ⟨bq, 0, none⟩) ∧ Fr [] w wx ∧
    BlkQ wx bq bn be N K ∧ Blk wx bn 210 (grid N 3 (linkC fun _ => ⟨0, 0, 0⟩)) ∧ Blk wx be 213 (grid K 3 (endsC fun _ => ⟨0, 0, 0⟩))

/-- Nodes that are loose up to k. -/
def halfL (k : Nat) : Nat → Link := fun i => if i < k then ⟨-1, -1, -1⟩ else ⟨0, 0, 0⟩
def halfE (k : Nat) : Nat → Ends := fun i => if i < k then ⟨-1, -1, 0⟩ else ⟨0, 0, 0⟩

def LoopN (w : World) (bq bn be N K : Nat) (k : Nat) (l : Nat) (wr : World) : Prop :=
  Fr [] w wr ∧ BlkQ wr bq bn be N K ∧ Blk wr bn 210 (grid N 3 (linkC (halfL k))) ∧ Blk wr be 213 (grid K 3 (endsC (halfE l)))

theorem zero_linkC (N : Nat) : (grid N 3 fun _ j => ([.int .i64 0, .int .i64 0, .int .i64 0] : List Value)[j]?.getD default) = grid N 3 (linkC fun _ => ⟨0, 0, 0⟩) :=
  grid_congr fun i j _ hj => by rcases (show j = 0 ∨ j = 1 ∨ j = 2 by omega) with rfl | rfl | rfl <;> rfl
theorem zero_endsC (N : Nat) : (grid N 3 fun _ j => ([.int .i64 0, .int .i64 0, .int .i64 0] : List Value)[j]?.getD default) = grid N 3 (endsC fun _ => ⟨0, 0, 0⟩) :=
  grid_congr fun i j _ hj => by rcases (show j = 0 ∨ j = 1 ∨ j = 2 by omega) with rfl | rfl | rfl <;> rfl

set_option maxHeartbeats 1000000 in
theorem new_ok (w : World) (N K : Nat) (n1 : 1 ≤ N) (n2 : N ≤ 500) (k1 : 1 ≤ K) (k2 : K ≤ 400) :
    Calls Try.prog 82 #[.int .i64 N, .int .i64 K] w fun e w' => ∃ bq bn be, w.heap.size ≤ bq ∧ w.heap.size ≤ bn ∧ w.heap.size ≤ be ∧ e = .returned (.tuple #[.pointer (some ⟨bq, 0, none⟩), .int .i64 0]) ∧ Fr [] w w' ∧
      RepQ w' bq bn be N K (fun _ => ⟨-1, -1, -1⟩) (fun _ => ⟨-1, -1, 0⟩) := by
  obtain ⟨il, hi, hz0, hz1, hz2⟩ := info_parts info_link
  obtain ⟨ie, hie, hez0, hez1, hez2⟩ := info_parts info_ends
  have mk1 := fun w => run_makeGrid (P := Try.prog) Try.underlying205 hi hz0 hz1 (m := 3) rfl (by omega) N (by rw [hz2]; omega) (by omega) w
  have mk2 := fun w => run_makeGrid (P := Try.prog) Try.underlying206 hie hez0 hez1 (m := 3) rfl (by omega) K (by rw [hez2]; omega) (by omega) w
  clear hi hz0 hz1 hz2 hie hez0 hez1 hez2
  go_enter Try.func82, Try.ntmps82
  go_upto_region 3 with fail
  go_cut [6] (fun s6 wx => NewRel w N K s6 wx)
  case first =>
    go_region
    · go_wp2_with fail
      go_meet
      refine ⟨w.heap.size + 1 + 1, w.heap.size, w.heap.size + 1, by omega, by omega, by omega, by omega, by omega, by omega, rfl, ?_, ?_, ?_, ?_⟩
      · with_reducible repeat (first | exact Fr.refl _ _ | assumption | apply Fr.drew | apply Fr.drewN | apply Fr.alloc | (apply Fr.step; assumption; (intro _ h; (first | exact h | (focus (simp_all; done))))) | (apply Fr.setIn; (first | exact List.mem_cons_self | exact List.mem_cons_of_mem _ List.mem_cons_self | exact List.mem_cons_of_mem _ (List.mem_cons_of_mem _ List.mem_cons_self) | exact List.mem_cons_of_mem _ (List.mem_cons_of_mem _ (List.mem_cons_of_mem _ List.mem_cons_self)))) | (apply Fr.setNew; (first | omega | (simp; omega))))
      · with_reducible repeat (first | exact Blk.new _ _ _ | (apply Blk.newAt rfl; (first | (simp; done) | (simp; omega))) | assumption | exact trivial | apply Blk.drew | apply Blk.drewN | apply Blk.alloc | (apply Blk.off; (first | assumption | omega)) | (apply Blk.put; omega) | (apply Blk.put0; omega) | apply Blk.same)
      · rw [← zero_linkC]; with_reducible repeat (first | exact Blk.new _ _ _ | (apply Blk.newAt rfl; (first | (simp; done) | (simp; omega))) | assumption | exact trivial | apply Blk.drew | apply Blk.drewN | apply Blk.alloc | (apply Blk.off; (first | assumption | omega)) | (apply Blk.put; omega) | (apply Blk.put0; omega) | apply Blk.same)
      · rw [← zero_endsC]; with_reducible repeat (first | exact Blk.new _ _ _ | (apply Blk.newAt rfl; (first | (simp; done) | (simp; omega))) | assumption | exact trivial | apply Blk.drew | apply Blk.drewN | apply Blk.alloc | (apply Blk.off; (first | assumption | omega)) | (apply Blk.put; omega) | (apply Blk.put0; omega) | apply Blk.same)
    · go_wp2_with fail
      go_meet
      refine ⟨w.heap.size + 1 + 1, w.heap.size + 1, w.heap.size, by omega, by omega, by omega, by omega, by omega, by omega, rfl, ?_, ?_, ?_, ?_⟩
      · with_reducible repeat (first | exact Fr.refl _ _ | assumption | apply Fr.drew | apply Fr.drewN | apply Fr.alloc | (apply Fr.step; assumption; (intro _ h; (first | exact h | (focus (simp_all; done))))) | (apply Fr.setIn; (first | exact List.mem_cons_self | exact List.mem_cons_of_mem _ List.mem_cons_self | exact List.mem_cons_of_mem _ (List.mem_cons_of_mem _ List.mem_cons_self) | exact List.mem_cons_of_mem _ (List.mem_cons_of_mem _ (List.mem_cons_of_mem _ List.mem_cons_self)))) | (apply Fr.setNew; (first | omega | (simp; omega))))
      · with_reducible repeat (first | exact Blk.new _ _ _ | (apply Blk.newAt rfl; (first | (simp; done) | (simp; omega))) | assumption | exact trivial | apply Blk.drew | apply Blk.drewN | apply Blk.alloc | (apply Blk.off; (first | assumption | omega)) | (apply Blk.put; omega) | (apply Blk.put0; omega) | apply Blk.same)
      · rw [← zero_linkC]; with_reducible repeat (first | exact Blk.new _ _ _ | (apply Blk.newAt rfl; (first | (simp; done) | (simp; omega))) | assumption | exact trivial | apply Blk.drew | apply Blk.drewN | apply Blk.alloc | (apply Blk.off; (first | assumption | omega)) | (apply Blk.put; omega) | (apply Blk.put0; omega) | apply Blk.same)
      · rw [← zero_endsC]; with_reducible repeat (first | exact Blk.new _ _ _ | (apply Blk.newAt rfl; (first | (simp; done) | (simp; omega))) | assumption | exact trivial | apply Blk.drew | apply Blk.drewN | apply Blk.alloc | (apply Blk.off; (first | assumption | omega)) | (apply Blk.put; omega) | (apply Blk.put0; omega) | apply Blk.same)
  case rest =>
    obtain ⟨bq, bn, be, g1, g2, g3, d1, d2, d3, rfl, F0, B1, B2, B3⟩ := hcut
    have c1 := B1.cell
    clear mk1 mk2
    go_wp2_with fail
    go_loopw [34, 7] (fun s34 _ wr => ∃ k : Nat, k ≤ N ∧ s34 = .int .i64 k ∧ LoopN w bq bn be N K k 0 wr) (fun s34 _ _ => N - (intOf s34).toNat)
    case atStart => exact ⟨0, by omega, rfl, F0, B1, B2, B3⟩
    case round =>
      obtain ⟨k, hk, rfl, F1, C1, C2, C3⟩ := hrel
      have c1 := C1.cell
      have c2 := C2.frozen
      have l2 := C2.lt
      by_cases hlt : k < N
      · have a0 := C2.at0 hlt (show 0 < 3 by omega)
        have a1 := C2.at hlt (show 1 < 3 by omega)
        have a2 := C2.at hlt (show 2 < 3 by omega)
        go_wp2_with fail
        go_region_held3 (fun w' => w'.cell? ⟨bq, 0, none⟩ = some (.slice (some ⟨bn, 0, none⟩) N N)) ((refine (Blk.cell (?_ : BlkQ _ bq bn be N K) 0).trans rfl; (with_reducible repeat (first | exact Blk.new _ _ _ | (apply Blk.newAt rfl; (first | (simp; done) | (simp; omega))) | assumption | exact C1 | apply Blk.drew | apply Blk.drewN | apply Blk.alloc | (apply Blk.off; (first | assumption | omega)) | (apply Blk.put; omega) | (apply Blk.put0; omega) | apply Blk.same))))
          (first | (go_at_call 130; refine (loose_any _).mono ?_; rintro e w' ⟨rfl, rfl⟩))
        go_wp2_with fail
        go_roundw
        case rel =>
          refine ⟨k + 1, by omega, by simp, ?_, ?_, ?_, ?_⟩
          · have l3 := F1.size
            with_reducible repeat (first | exact Fr.refl _ _ | assumption | apply Fr.drew | apply Fr.drewN | apply Fr.alloc | (apply Fr.step; assumption; (intro _ h; (first | exact h | (focus (simp_all; done))))) | (apply Fr.setIn; (first | exact List.mem_cons_self | exact List.mem_cons_of_mem _ List.mem_cons_self | exact List.mem_cons_of_mem _ (List.mem_cons_of_mem _ List.mem_cons_self) | exact List.mem_cons_of_mem _ (List.mem_cons_of_mem _ (List.mem_cons_of_mem _ List.mem_cons_self)))) | (apply Fr.setNew; (first | omega | (simp; omega))))
          · with_reducible repeat (first | exact Blk.new _ _ _ | (apply Blk.newAt rfl; (first | (simp; done) | (simp; omega))) | assumption | exact C1 | apply Blk.drew | apply Blk.drewN | apply Blk.alloc | (apply Blk.off; (first | assumption | omega)) | (apply Blk.put; omega) | (apply Blk.put0; omega) | apply Blk.same)
          · apply Blk.cast
            · with_reducible repeat (first | exact Blk.new _ _ _ | (apply Blk.newAt rfl; (first | (simp; done) | (simp; omega))) | assumption | exact C2 | apply Blk.drew | apply Blk.drewN | apply Blk.alloc | (apply Blk.off; (first | assumption | omega)) | (apply Blk.put; omega) | (apply Blk.put0; omega) | apply Blk.same)
            refine grid_congr fun a b _ hb => ?_
            by_cases e : a = k
            · subst e; rcases (show b = 0 ∨ b = 1 ∨ b = 2 by omega) with rfl | rfl | rfl <;> simp [linkC, halfL]
            · have : (a < k + 1) ↔ a < k := by omega
              simp [linkC, halfL, e, this]
          · with_reducible repeat (first | exact Blk.new _ _ _ | (apply Blk.newAt rfl; (first | (simp; done) | (simp; omega))) | assumption | exact C3 | apply Blk.drew | apply Blk.drewN | apply Blk.alloc | (apply Blk.off; (first | assumption | omega)) | (apply Blk.put; omega) | (apply Blk.put0; omega) | apply Blk.same)
        case measure => simp [intOf]; omega
      · obtain rfl : k = N := by omega
        clear F0 B1 B2 B3
        go_wp2_with fail
        obtain ⟨wo, hwo⟩ : ∃ wo : World, wo = wr := ⟨_, rfl⟩
        subst hwo
        go_loopw [50, 8] (fun s50 _ wr => ∃ l : Nat, l ≤ K ∧ s50 = .int .i64 l ∧ LoopN w bq bn be k K k l wr) (fun s50 _ _ => K - (intOf s50).toNat)
        case atStart => exact ⟨0, by omega, rfl, F1, C1, C2, C3⟩
        case round =>
          obtain ⟨l, hl, rfl, F1, D1, D2, D3⟩ := hrel
          clear c1 c2 C1 C2 C3
          have c1 := D1.cell
          have c2 := D3.frozen
          have l2 := D3.lt
          by_cases hlt2 : l < K
          · have a0 := D3.at0 hlt2 (show 0 < 3 by omega)
            have a1 := D3.at hlt2 (show 1 < 3 by omega)
            have a2 := D3.at hlt2 (show 2 < 3 by omega)
            go_wp2_with fail
            go_region_held3 (fun w' => w'.cell? ⟨bq, 1, none⟩ = some (.slice (some ⟨be, 0, none⟩) K K)) ((refine (Blk.cell (?_ : BlkQ _ bq bn be k K) 1).trans rfl; (with_reducible repeat (first | exact Blk.new _ _ _ | (apply Blk.newAt rfl; (first | (simp; done) | (simp; omega))) | assumption | exact D1 | apply Blk.drew | apply Blk.drewN | apply Blk.alloc | (apply Blk.off; (first | assumption | omega)) | (apply Blk.put; omega) | (apply Blk.put0; omega) | apply Blk.same))))
              (first | (go_at_call 131; refine (empty_any _).mono ?_; rintro e w' ⟨rfl, rfl⟩))
            go_wp2_with fail
            go_roundw
            case rel =>
              refine ⟨l + 1, by omega, by simp, ?_, ?_, ?_, ?_⟩
              · have l3 := F1.size
                with_reducible repeat (first | exact Fr.refl _ _ | assumption | apply Fr.drew | apply Fr.drewN | apply Fr.alloc | (apply Fr.step; assumption; (intro _ h; (first | exact h | (focus (simp_all; done))))) | (apply Fr.setIn; (first | exact List.mem_cons_self | exact List.mem_cons_of_mem _ List.mem_cons_self | exact List.mem_cons_of_mem _ (List.mem_cons_of_mem _ List.mem_cons_self) | exact List.mem_cons_of_mem _ (List.mem_cons_of_mem _ (List.mem_cons_of_mem _ List.mem_cons_self)))) | (apply Fr.setNew; (first | omega | (simp; omega))))
              · with_reducible repeat (first | exact Blk.new _ _ _ | (apply Blk.newAt rfl; (first | (simp; done) | (simp; omega))) | assumption | exact D1 | apply Blk.drew | apply Blk.drewN | apply Blk.alloc | (apply Blk.off; (first | assumption | omega)) | (apply Blk.put; omega) | (apply Blk.put0; omega) | apply Blk.same)
              · with_reducible repeat (first | exact Blk.new _ _ _ | (apply Blk.newAt rfl; (first | (simp; done) | (simp; omega))) | assumption | exact D2 | apply Blk.drew | apply Blk.drewN | apply Blk.alloc | (apply Blk.off; (first | assumption | omega)) | (apply Blk.put; omega) | (apply Blk.put0; omega) | apply Blk.same)
              · apply Blk.cast
                · with_reducible repeat (first | exact Blk.new _ _ _ | (apply Blk.newAt rfl; (first | (simp; done) | (simp; omega))) | assumption | exact D3 | apply Blk.drew | apply Blk.drewN | apply Blk.alloc | (apply Blk.off; (first | assumption | omega)) | (apply Blk.put; omega) | (apply Blk.put0; omega) | apply Blk.same)
                refine grid_congr fun a b _ hb => ?_
                by_cases e : a = l
                · subst e; rcases (show b = 0 ∨ b = 1 ∨ b = 2 by omega) with rfl | rfl | rfl <;> simp [endsC, halfE]
                · have : (a < l + 1) ↔ a < l := by omega
                  simp [endsC, halfE, e, this]
            case measure => simp [intOf]; omega
          · obtain rfl : l = K := by omega
            go_wp2_with fail
            go_ret2
            refine ⟨bq, bn, be, g1, g2, g3, rfl, F1, D1, ?_, ?_, n1, n2, k1, k2⟩
            · exact D2.cast (grid_congr fun a b ha _ => by simp [linkC, halfL, ha])
            · exact D3.cast (grid_congr fun a b ha _ => by simp [endsC, halfE, ha])
end Go.Proofs.Ytkimldeagndgjaa
