/- The ladder's iterator, walked: the levels from the best on. -/
import Derived.Test.YtkimldeagndgjaaLadI
import Derived.Test.YtkimldeagndgjaaRange
namespace Go.Proofs.Ytkimldeagndgjaa
set_option linter.unusedVariables false
set_option linter.unusedSimpArgs false
open Go.RowKit Go.Shelf
attribute [local go_sem] Oper.semAt_some

theorem lEach_mk (w : World) (q : Value) (hq : ∃ a, q = .pointer a) :
    Calls Try.prog 100 #[q] w fun e w' => e = .returned (.func (.func 142) #[] #[.pointer (some ⟨w.heap.size, 0, none⟩)]) ∧ w.alloc (.cells #[q] 133) = w' := by
  obtain ⟨a, rfl⟩ := hq
  have hmf : ∀ (fn : Fn) (first cap : Array Value) (w : World), (Instr.makeFunc fn first cap).run Try.prog w = .ok (.func fn first cap) w := fun _ _ _ _ => rfl
  go_enter Try.func100, Try.ntmps100
  go_wp2
  go_ret
  exact ⟨rfl, rfl⟩

theorem lEach1_nil (W : World) (l b1 : Nat) (h1 : Blk W b1 133 #[.pointer none]) :
    Calls Try.prog 142 #[.func (.yield l) #[] #[], .pointer (some ⟨b1, 0, none⟩)] W fun e W' => e = .returned (.tuple #[]) ∧ W = W' := by
  have c1 := h1.cell
  go_enter Try.func142, Try.ntmps142
  go_wp2_with fail
  refine bodyPost_ret (results_none rfl _ _ _) rfl ?_
  exact ⟨rfl, rfl⟩

theorem lEach_own_nil (W0 : World) (b1 : Nat) (T : List Nat) (h1 : Blk W0 b1 133 #[.pointer none]) :
    SeqOwn Try.prog 142 #[.pointer (some ⟨b1, 0, none⟩)] (fun x : Lvl => #[lvV x]) T [] W0 := by
  intro l J Jx W hb hJ hJx hY h0
  refine (lEach1_nil W l b1 (h1.below hb h1.lt)).mono ?_
  rintro e W' ⟨rfl, rfl⟩
  exact ⟨⟨_, rfl⟩, .inl h0⟩

theorem RowL.same {S : List Nat} {w w' : World} {v : Value} {n : Nat} {f : Nat → Lvl} (hk : Same S w w') (hS : ∀ g, v.ownBlock = some g → g ∈ S) (h : RowL w v n f) : RowL w' v n f := by
  rcases h with h | ⟨lb, cap, cur, rfl, h1, B, h2, h3⟩
  · exact .inl h
  · exact .inr ⟨lb, cap, cur, rfl, h1, hk.blk (hS lb rfl) B, h2, h3⟩
theorem LadR.same {S : List Nat} {w w' : World} {lp : Nat} {side most : Int} {v : Value} {u : Nat → Nat} {n : Nat} {f : Nat → Lvl} (hk : Same S w w') (h1 : lp ∈ S) (h2 : ∀ g, v.ownBlock = some g → g ∈ S) (h : LadR w lp side most v u n f) : LadR w' lp side most v u n f :=
  ⟨hk.blk h1 h.b, h.r.same hk h2, h.hside, h.hmost, h.hn, h.price, h.sorted⟩

/-- The first k levels. -/
def lvs (f : Nat → Lvl) (k : Nat) : List Lvl := (List.range k).map f
theorem lvs_succ (f : Nat → Lvl) (k : Nat) : lvs f (k + 1) = lvs f k ++ [f k] := by simp [lvs, List.range_succ]
theorem lvs_len (f : Nat → Lvl) (k : Nat) : (lvs f k).length = k := by simp [lvs]
theorem lvs_prefix (f : Nat → Lvl) {k n : Nat} (h : k ≤ n) : lvs f k <+: lvs f n := by
  obtain ⟨d, rfl⟩ := Nat.exists_eq_add_of_le h
  induction d with
  | zero => exact List.prefix_refl _
  | succ d ih => exact (ih (by omega)).trans ⟨[f (k + d)], by rw [← lvs_succ]; rfl⟩

set_option maxHeartbeats 1000000 in
theorem lEach1_in (l b1 lp : Nat) (side most : Int) (v : Value) (u : Nat → Nat) (n : Nat) (f : Nat → Lvl) (J Jx : List Lvl → World → Prop) (S : List Nat) (hS : ∀ x, x = b1 ∨ x = lp ∨ v.ownBlock = some x → x ∈ S)
    (W : World) (hJ : OwnFrom W.heap.size J)
    (hY : ∀ pre x W1, J pre W1 → pre ++ [x] <+: lvs f n → YieldAt Fence.wide 0 Try.prog l #[lvV x] W1 fun e W' => KeepsFrom W.heap.size W1 W' ∧
      ((e = .returned (.bool true) ∧ J (pre ++ [x]) W' ∧ Same S W1 W') ∨ (e = .returned (.bool false) ∧ Jx (pre ++ [x]) W')))
    (h1 : Blk W b1 133 #[.pointer (some ⟨lp, 0, none⟩)]) (h : LadR W lp side most v u n f) (h0 : J [] W) :
    CallsIn Fence.wide 1 Try.prog 142 #[.func (.yield l) #[] #[], .pointer (some ⟨b1, 0, none⟩)] W fun e W' => (∃ v, e = .returned v) ∧
      (J (lvs f n) W' ∨ (∃ pre, pre <+: lvs f n ∧ Jx pre W')) := by
  have c1 := h1.cell
  have c2 := h.b.cell
  obtain ⟨A, cap, rfl⟩ := h.form
  have hn : (n : Int) ≤ 200 := by have := h.hn; have := h.hmost; omega
  have hF : ∀ k, Fence.wide.fn k := fun _ => trivial
  refine callsIn_of_wp Try.func142 rfl trivial ?_ rfl
  simp only [Try.ntmps142, List.size_toArray, List.length_cons, List.length_nil, Nat.reduceAdd, Nat.reduceSub, Array.replicate_succ, Array.replicate_zero, List.push_toArray, List.append_toArray, List.nil_append, List.cons_append]
  gi_wp2
  gi_loopw [12] (fun p wr => ∃ k : Nat, k ≤ n ∧ p = .int .i64 k ∧ LadR wr lp side most (.slice A n cap) u n f ∧ Blk wr b1 133 #[.pointer (some ⟨lp, 0, none⟩)] ∧ J (lvs f k) wr) (fun p _ => n - (intOf p).toNat)
  case atStart => exact ⟨0, by omega, rfl, h, h1, h0⟩
  case round =>
    obtain ⟨k, hk, rfl, r, q1, hJs⟩ := hrel
    clear c1 c2 h
    by_cases hlt : k < n
    · have i1 : (k : Int) < (n : Int) := by omega
      have i0 : (0 : Int) ≤ (k : Int) := by omega
      obtain ⟨lb, cap', cur, e, hnc, B, m0, m1, m2, m3⟩ := r.lv hlt
      injection e with e1 _ e2
      subst e1; subst e2
      have HR := Lib.hid r
      clear r
      have hpx : lvs f k ++ [f k] <+: lvs f n := by rw [← lvs_succ]; exact lvs_prefix f hlt
      obtain ⟨fn, tmps, assign, body, hy, hR⟩ := hY (lvs f k) (f k) (wr.alloc (.cells #[.int .i64 (f k).price, .int .i64 (f k).qty, .int .i64 (f k).orders, .int .i64 (f k).queue] 159)) (hJ.alloc _ hJs) hpx
      simp only [lvV] at hy
      gi_wp2
      refine hR.mono ?_
      rintro e W3 ⟨_, (⟨rfl, hJ3, hk3⟩ | ⟨rfl, hJx3⟩)⟩
      · have r3 := (HR.out.fr (S := []) (by with_reducible repeat (first | exact Fr.refl _ _ | assumption | apply Fr.drew | apply Fr.drewN | apply Fr.alloc | (apply Fr.step; assumption; (intro _ h; (first | exact h | (focus (simp_all; done))))) | (apply Fr.setIn; (first | exact List.mem_cons_self | exact List.mem_cons_of_mem _ List.mem_cons_self | exact List.mem_cons_of_mem _ (List.mem_cons_of_mem _ List.mem_cons_self) | exact List.mem_cons_of_mem _ (List.mem_cons_of_mem _ (List.mem_cons_of_mem _ List.mem_cons_self)))) | (apply Fr.setNew; (first | omega | (simp; omega))))) (by simp) (by simp) : LadR (wr.alloc (.cells #[.int .i64 (f k).price, .int .i64 (f k).qty, .int .i64 (f k).orders, .int .i64 (f k).queue] 159)) lp side most _ u n f).same hk3 (hS _ (.inr (.inl rfl))) (fun g hg => hS _ (.inr (.inr hg)))
        have p1 := hk3.blk (hS _ (.inl rfl)) (q1.alloc _)
        gi_wp2
        go_roundw
        case rel => exact ⟨k + 1, by omega, by simp, r3, p1, by rw [lvs_succ]; exact hJ3⟩
        case measure => simp [intOf]; omega
      · gi_wp2
        refine bodyPost_ret (results_none rfl _ _ _) rfl ?_
        exact ⟨⟨_, rfl⟩, .inr ⟨_, hpx, hJx3⟩⟩
    · obtain rfl : k = n := by omega
      gi_wp2
      go_end0
      exact ⟨⟨_, rfl⟩, .inl hJs⟩

theorem lEach_own (b1 lp : Nat) (side most : Int) (v : Value) (u : Nat → Nat) (n : Nat) (f : Nat → Lvl) (S : List Nat) (hS : ∀ x, x = b1 ∨ x = lp ∨ v.ownBlock = some x → x ∈ S) (W0 : World) (h1 : Blk W0 b1 133 #[.pointer (some ⟨lp, 0, none⟩)]) (h : LadR W0 lp side most v u n f) :
    SeqOwn Try.prog 142 #[.pointer (some ⟨b1, 0, none⟩)] (fun x : Lvl => #[lvV x]) S (lvs f n) W0 := by
  intro l J Jx W hb hJ hJx hY h0
  refine callsIn_wide.1 (lEach1_in l b1 lp side most v u n f J Jx S hS W hJ hY (h1.below hb h1.lt) ⟨Blk.below h.b hb h.b.lt, ?_, h.hside, h.hmost, h.hn, h.price, h.sorted⟩ h0)
  rcases h.r with h | ⟨lb, cap, cur, rfl, a1, B, a2, a3⟩
  · exact .inl h
  · exact .inr ⟨lb, cap, cur, rfl, a1, B.below hb B.lt, a2, a3⟩
end Go.Proofs.Ytkimldeagndgjaa
