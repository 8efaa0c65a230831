/- A nil book: Get, Better, Each, walked. -/
import Derived.Test.YtkimldeagndgjaaBookN
import Derived.Test.YtkimldeagndgjaaLadJ
import Derived.Outline
namespace Go.Proofs.Ytkimldeagndgjaa
set_option linter.unusedVariables false
set_option linter.unusedSimpArgs false
open Go.RowKit Go.Shelf

theorem bkFind_nil (w : World) (id : Int) : Calls Try.prog 90 #[.pointer none, .int .i64 id] w fun e w' => e = .returned (.tuple #[.agg ord0.a, .int .i64 0, .bool false]) ∧ Fr [] w w' := by
  go_enter Try.func90, Try.ntmps90
  go_wp2_with fail
  exact bodyPost_ret (v := .tuple #[.agg ord0.a, .int .i64 0, .bool false]) (by simp [results, Try.results90, go_sem, ord0]) rfl ⟨rfl, by with_reducible repeat (first | exact Fr.refl _ _ | assumption | apply Fr.drew | apply Fr.drewN | apply Fr.alloc | (apply Fr.step; assumption; (intro _ h; (first | exact h | (focus (simp_all; done))))) | (apply Fr.setIn; (first | exact List.mem_cons_self | exact List.mem_cons_of_mem _ List.mem_cons_self | exact List.mem_cons_of_mem _ (List.mem_cons_of_mem _ List.mem_cons_self) | exact List.mem_cons_of_mem _ (List.mem_cons_of_mem _ (List.mem_cons_of_mem _ List.mem_cons_self)))) | (apply Fr.setNew; (first | omega | (simp; omega))))⟩
theorem bkGet_nil (w : World) (id : Int) : Calls Try.prog 27 #[.pointer none, .int .i64 id] w fun e w' => e = .returned (.tuple #[.agg ord0.a, .bool false]) ∧ Fr [] w w' := by
  go_enter Try.func27, Try.ntmps27
  go_wp2_with fail
  refine (bkFind_nil _ _).mono ?_
  rintro e w1 ⟨rfl, F⟩
  have B0 := Blk.via F (by simp) (Blk.new w 43 _)
  have F0 : Fr [] w w1 := Fr.trans (by with_reducible repeat (first | exact Fr.refl _ _ | assumption | apply Fr.drew | apply Fr.drewN | apply Fr.alloc | (apply Fr.step; assumption; (intro _ h; (first | exact h | (focus (simp_all; done))))) | (apply Fr.setIn; (first | exact List.mem_cons_self | exact List.mem_cons_of_mem _ List.mem_cons_self | exact List.mem_cons_of_mem _ (List.mem_cons_of_mem _ List.mem_cons_self) | exact List.mem_cons_of_mem _ (List.mem_cons_of_mem _ (List.mem_cons_of_mem _ List.mem_cons_self)))) | (apply Fr.setNew; (first | omega | (simp; omega))))) F
  clear F
  go_wp2_with (refine wpList_storeO rfl (.tmp 4) (.tmp 16) rfl w.heap.size _ ord0 rfl rfl (B0.alloc _) rfl ?_
               intro w3 B3 F3)
  have c3 := B3.cell
  exact bodyPost_ret (v := .tuple #[.agg ord0.a, .bool false]) (by simp [results, Try.results27, go_sem, c3]) rfl ⟨rfl, fr_fresh2 (Nat.le_refl _) (F0.alloc _) F3⟩

def betterB (s x y : Int) : Bool := (s == 0 && decide (y < x)) || (s == 1 && decide (x < y))
theorem better_any (w : World) (s x y : Int) : Calls Try.prog 31 #[.int .i64 s, .int .i64 x, .int .i64 y] w fun e w' => e = .returned (.bool (betterB s x y)) ∧ w = w' := by
  rcases (show s = 0 ∨ s = 1 ∨ ((s == 0) = false ∧ (s == 1) = false) by by_cases a : s = 0 <;> by_cases b : s = 1 <;> simp [a, b]) with rfl | rfl | ⟨h0, h1⟩
  · have e : betterB 0 x y = decide (y < x) := by simp [betterB]
    rw [e]
    go_enter Try.func31, Try.ntmps31
    go_wp2_with fail
    go_ret
    exact ⟨rfl, rfl⟩
  · have e : betterB 1 x y = decide (x < y) := by simp [betterB]
    rw [e]
    go_enter Try.func31, Try.ntmps31
    go_wp2_with fail
    go_ret
    exact ⟨rfl, rfl⟩
  · have e : betterB s x y = false := by simp [betterB, h0, h1]
    rw [e]
    clear e
    go_enter Try.func31, Try.ntmps31
    go_wp2_with fail
    go_ret
    exact ⟨rfl, rfl⟩
theorem refBetter_any (w : World) (s x y : Int) : Calls Try.prog 49 #[.int .i64 s, .int .i64 x, .int .i64 y] w fun e w' => e = .returned (.bool (betterB s x y)) ∧ w = w' := by
  rcases (show (s = 0 ∧ y < x) ∨ (s = 0 ∧ ¬ y < x) ∨ (s = 1 ∧ True) ∨ ((s == 0) = false ∧ (s == 1) = false) by by_cases a : s = 0 <;> by_cases b : s = 1 <;> simp [a, b] <;> omega) with ⟨rfl, h⟩ | ⟨rfl, h⟩ | ⟨rfl, _⟩ | ⟨h0, h1⟩
  · have e : betterB 0 x y = true := by simp [betterB, h]
    rw [e]
    go_enter Try.func49, Try.ntmps49
    go_wp2_with fail
    go_ret
    exact ⟨rfl, rfl⟩
  · have e : betterB 0 x y = false := by simp [betterB, h]
    rw [e]
    go_enter Try.func49, Try.ntmps49
    go_wp2_with fail
    go_ret
    exact ⟨rfl, rfl⟩
  · have e : betterB 1 x y = decide (x < y) := by simp [betterB]
    rw [e]
    go_enter Try.func49, Try.ntmps49
    go_wp2_with fail
    go_ret
    exact ⟨rfl, rfl⟩
  · have e : betterB s x y = false := by simp [betterB, h0, h1]
    rw [e]
    clear e
    go_enter Try.func49, Try.ntmps49
    go_wp2_with fail
    go_ret
    exact ⟨rfl, rfl⟩

theorem bEach_mk (w : World) (q : Value) (i : Int) (hq : ∃ a, q = .pointer a) :
    Calls Try.prog 37 #[q, .int .i64 i] w fun e w' => e = .returned (.func (.func 99) #[] #[.pointer (some ⟨w.heap.size, 0, none⟩), .pointer (some ⟨w.heap.size + 1, 0, none⟩)]) ∧ (w.alloc (.cells #[q] 24)).alloc (.cells #[.int .i64 i] 3) = w' := by
  obtain ⟨a, rfl⟩ := hq
  have hmf : ∀ (fn : Fn) (first cap : Array Value) (w : World), (Instr.makeFunc fn first cap).run Try.prog w = .ok (.func fn first cap) w := fun _ _ _ _ => rfl
  go_enter Try.func37, Try.ntmps37
  go_wp2_with fail
  go_ret
  exact ⟨rfl, rfl⟩

theorem bEach1_nil (W : World) (l b1 b2 : Nat) (i : Int) (h1 : Blk W b1 24 #[.pointer none]) (h2 : Blk W b2 3 #[.int .i64 i]) :
    Calls Try.prog 99 #[.func (.yield l) #[] #[], .pointer (some ⟨b1, 0, none⟩), .pointer (some ⟨b2, 0, none⟩)] W fun e W' => e = .returned (.tuple #[]) ∧ Fr [] W W' := by
  have c1 := h1.cell
  have c2 := h2.cell
  have l1 := h1.lt
  have l2 := h2.lt
  go_enter Try.func99, Try.ntmps99
  go_wp2_with fail
  go_step3
  go_wp2_with fail
  refine (of_side_nil _ _).mono ?_
  rintro e w1 ⟨rfl, rfl⟩
  go_wp2_with fail
  rw [Exit.noGoto_ret]
  refine bodyPost_ret (results_none rfl _ _ _) rfl ?_
  exact ⟨rfl, by with_reducible repeat (first | exact Fr.refl _ _ | assumption | apply Fr.drew | apply Fr.drewN | apply Fr.alloc | (apply Fr.step; assumption; (intro _ h; (first | exact h | (focus (simp_all; done))))) | (apply Fr.setIn; (first | exact List.mem_cons_self | exact List.mem_cons_of_mem _ List.mem_cons_self | exact List.mem_cons_of_mem _ (List.mem_cons_of_mem _ List.mem_cons_self) | exact List.mem_cons_of_mem _ (List.mem_cons_of_mem _ (List.mem_cons_of_mem _ List.mem_cons_self)))) | (apply Fr.setNew; (first | omega | (simp; omega))))⟩
theorem bEach_own_nil (W0 : World) (b1 b2 : Nat) (i : Int) (T : List Nat) (h1 : Blk W0 b1 24 #[.pointer none]) (h2 : Blk W0 b2 3 #[.int .i64 i]) :
    SeqOwn Try.prog 99 #[.pointer (some ⟨b1, 0, none⟩), .pointer (some ⟨b2, 0, none⟩)] (fun x : Ord => #[.agg x.a]) T [] W0 := by
  intro l J Jx W hb hJ hJx hY h0
  refine (bEach1_nil W l b1 b2 i (h1.below hb h1.lt) (h2.below hb h2.lt)).mono ?_
  rintro e W' ⟨rfl, hf⟩
  exact ⟨⟨_, rfl⟩, .inl (hJ _ _ _ none h0 ⟨hf.os, hf.tape, hf.output, hf.size, fun i hi _ => hf.block i hi (by simp)⟩ (by simp))⟩
end Go.Proofs.Ytkimldeagndgjaa
