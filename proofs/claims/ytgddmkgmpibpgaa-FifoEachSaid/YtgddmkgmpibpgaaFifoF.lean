/- The queues' iterator, walked: a queue's nodes, in order. -/
import Derived.Test.YtgddmkgmpibpgaaFifoE
import Derived.Test.YtgddmkgmpibpgaaSeq
namespace Go.Proofs.Ytgddmkgmpibpgaa
set_option linter.unusedVariables false
set_option linter.unusedSimpArgs false
open Go.RowKit Go.Shelf
attribute [local go_sem] Oper.semAt_some

theorem each_mk (w : World) (q : Value) (i : Int) (hq : ∃ a, q = .pointer a) :
    Calls Try.prog 32 #[q, .int .i64 i] w fun e w' => e = .returned (.func (.func 75) #[] #[.pointer (some ⟨w.heap.size, 0, none⟩), .pointer (some ⟨w.heap.size + 1, 0, none⟩)]) ∧ (w.alloc (.cells #[q] 41)).alloc (.cells #[.int .i64 i] 3) = w' := by
  obtain ⟨a, rfl⟩ := hq
  have hmf : ∀ (fn : Fn) (first cap : Array Value) (w : World), (Instr.makeFunc fn first cap).run Try.prog w = .ok (.func fn first cap) w := fun _ _ _ _ => rfl
  go_enter Try.func32, Try.ntmps32
  go_wp2
  go_ret
  exact ⟨rfl, rfl⟩

theorem each1_nil (n : Nat) (W : World) (l b1 b2 : Nat) (i : Int) (h1 : Blk W b1 41 #[.pointer none]) (h2 : Blk W b2 3 #[.int .i64 i]) :
    Calls Try.prog 75 #[.func (.yield l) #[] #[], .pointer (some ⟨b1, 0, none⟩), .pointer (some ⟨b2, 0, none⟩)] W fun e W' => e = .returned (.tuple #[]) ∧ W = W' := by
  have c1 := h1.cell
  have c2 := h2.cell
  go_enter Try.func75, Try.ntmps75
  go_wp2_with fail
  refine (queue_nil W i).mono ?_
  rintro e w' ⟨rfl, rfl⟩
  go_wp2_with fail
  refine bodyPost_ret (results_none rfl _ _ _) rfl ?_
  exact ⟨rfl, rfl⟩

theorem each_stops_nil (n : Nat) (W0 : World) (b1 b2 : Nat) (i : Int) (h1 : Blk W0 b1 41 #[.pointer none]) (h2 : Blk W0 b2 3 #[.int .i64 i]) (Kp : World → World → Prop) :
    SeqStopsK Fence.wide n Try.prog 75 #[.pointer (some ⟨b1, 0, none⟩), .pointer (some ⟨b2, 0, none⟩)] (fun x : Nat => #[.int .i64 x]) Kp (fun xs => xs = []) (fun _ => False) 0 W0 := by
  intro l J Jx W hb hJ hJx hY h0
  refine callsIn_wide.2 ((each1_nil n W l b1 b2 i (h1.below hb h1.lt) (h2.below hb h2.lt)).mono ?_)
  rintro e W' ⟨rfl, rfl⟩
  exact ⟨⟨_, rfl⟩, .inl ⟨[], rfl, h0⟩⟩

set_option maxHeartbeats 1000000 in
theorem each1_in (n : Nat) (hn : 1 ≤ n) (l b1 b2 bq bn be N K : Nat) (L : Nat → List Nat) (i : Nat) (hi : i < K) (J Jx : List Nat → World → Prop)
    (hY : ∀ pre x W, J pre W → pre.length < (L i).length → YieldAt Fence.wide (n - 1) Try.prog l #[.int .i64 ((x : Nat) : Int)] W fun e W' =>
      (e = .returned (.bool true) ∧ J (pre ++ [x]) W' ∧ Same [b1, b2, bq, bn, be] W W') ∨ (e = .returned (.bool false) ∧ Jx (pre ++ [x]) W'))
    (W : World) (h1 : Blk W b1 41 #[.pointer (some ⟨bq, 0, none⟩)]) (h2 : Blk W b2 3 #[.int .i64 i]) (nd : Nat → Link) (en : Nat → Ends) (hr : RepQ W bq bn be N K nd en) (hv : QInv N K L nd en) (h0 : J [] W) :
    CallsIn Fence.wide n Try.prog 75 #[.func (.yield l) #[] #[], .pointer (some ⟨b1, 0, none⟩), .pointer (some ⟨b2, 0, none⟩)] W fun e W' => (∃ v, e = .returned v) ∧
      ((∃ ys, ys = L i ∧ J ys W') ∨ (∃ pre, pre <+: L i ∧ Jx pre W')) := by
  have c1 := h1.cell
  have c2 := h2.cell
  have e1 := hr.e.at0 hi (show 0 < 3 by omega)
  simp only [endsC, hv.een i hi] at e1
  have hF : ∀ k, Fence.wide.fn k := fun _ => trivial
  refine callsIn_of_wp Try.func75 rfl trivial ?_ rfl
  simp only [Try.ntmps75, List.size_toArray, List.length_cons, List.length_nil, Nat.reduceAdd, Nat.reduceSub, Array.replicate_succ, Array.replicate_zero, List.push_toArray, List.append_toArray, List.nil_append, List.cons_append]
  gi_wp2_with (gi_at_call 73; refine (callsIn_wide.2 (queue_in _ bq bn be N K hr.q hr.K2 i hi)).mono ?_; rintro e w' ⟨rfl, rfl⟩)
  gi_loopw [5] (fun p wr => ∃ pre rest : List Nat, p = .int .i64 (ptr rest.head?) ∧ L i = pre ++ rest ∧ RepQ wr bq bn be N K nd en ∧ Blk wr b1 41 #[.pointer (some ⟨bq, 0, none⟩)] ∧ Blk wr b2 3 #[.int .i64 i] ∧ J pre wr) (fun p _ => leftOf (L i) p)
  case atStart => exact ⟨[], L i, rfl, rfl, hr, h1, h2, h0⟩
  case round =>
    obtain ⟨pre, rest, rfl, hx, r, k1, k2, hJs⟩ := hrel
    have HX := Lib.hid hx
    clear hx c1 c2 e1
    cases rest with
    | nil =>
      have hp : ptr ([] : List Nat).head? = -1 := rfl
      rw [hp]
      clear hp
      gi_wp2
      go_end0
      exact ⟨⟨_, rfl⟩, .inl ⟨pre, by rw [HX.out]; simp, hJs⟩⟩
    | cons x rest =>
      obtain ⟨hxN, hlx⟩ := hv.lnk i hi pre x rest HX.out
      have hp : ptr (x :: rest).head? = (x : Int) := rfl
      rw [hp]
      clear hp
      have hne : (((x : Nat) : Int) == -1) = false := by first | (simp; done) | (simp; omega)
      have hne2 : (((x : Nat) : Int) != -1) = true := by first | (simp; done) | (simp; omega)
      obtain ⟨fn, tmps, assign, body, hy, hR⟩ := hY pre x wr hJs (by rw [HX.out]; simp)
      gi_wp2
      refine hR.mono ?_
      rintro e W3 (⟨rfl, hJ3, hk3⟩ | ⟨rfl, hJx3⟩)
      · have r3 : RepQ W3 bq bn be N K nd en := ⟨hk3.blk (by simp) r.q, hk3.blk (by simp) r.n, hk3.blk (by simp) r.e, r.N1, r.N2, r.K1, r.K2⟩
        have q1 := hk3.blk (by simp) k1
        have q2 := hk3.blk (by simp) k2
        have d1 := q1.cell
        have d2 := r3.q.cell
        have d3 := r3.n.at hxN (show 1 < 3 by omega)
        simp only [linkC, hlx] at d3
        have hN2 := r.N2
        clear hne hne2
        gi_wp2
        go_roundw
        case rel => exact ⟨pre ++ [x], rest, rfl, by rw [HX.out]; simp, r3, q1, q2, hJ3⟩
        case measure =>
          have hnd := hv.nodup i hi
          have i1 : (L i).idxOf x = pre.length := idxOf_split hnd HX.out
          have l1 : (L i).length = pre.length + 1 + rest.length := by rw [HX.out]; simp; omega
          have m1 : leftOf (L i) (.int .i64 (x : Int)) = rest.length + 1 := by
            simp only [leftOf]
            rw [if_neg (by omega), Int.toNat_natCast, i1]; omega
          rw [m1]
          cases rest with
          | nil => simp [leftOf, ptr]
          | cons y rest =>
            have i2 : (L i).idxOf y = pre.length + 1 := by
              have := idxOf_split (A := pre ++ [x]) (B := rest) (x := y) hnd (by rw [HX.out]; simp)
              simpa using this
            have hp : ptr (y :: rest).head? = (y : Int) := rfl
            rw [hp]
            simp only [leftOf]
            rw [if_neg (by omega), Int.toNat_natCast, i2]
            simp at l1 ⊢
            omega
      · gi_wp2
        refine bodyPost_ret (results_none rfl _ _ _) rfl ?_
        exact ⟨⟨_, rfl⟩, .inr ⟨pre ++ [x], ⟨rest, by rw [HX.out]; simp⟩, hJx3⟩⟩

theorem each_stops (n : Nat) (hn : 1 ≤ n) (b1 b2 bq bn be N K : Nat) (L : Nat → List Nat) (i : Nat) (hi : i < K) (W0 : World) (h1 : Blk W0 b1 41 #[.pointer (some ⟨bq, 0, none⟩)]) (h2 : Blk W0 b2 3 #[.int .i64 i]) (hA : AbsQ W0 bq bn be N K L) :
    SeqStopsK Fence.wide n Try.prog 75 #[.pointer (some ⟨b1, 0, none⟩), .pointer (some ⟨b2, 0, none⟩)] (fun x : Nat => #[.int .i64 x]) (Same [b1, b2, bq, bn, be]) (fun xs => xs = L i) (fun pre => pre <+: L i) (L i).length W0 := by
  obtain ⟨nd, en, r, v⟩ := hA
  intro l J Jx W hb hJ hJx hY h0
  exact each1_in n hn l b1 b2 bq bn be N K L i hi J Jx hY W (h1.below hb h1.lt) (h2.below hb h2.lt) nd en
    ⟨Blk.below r.q hb r.q.lt, r.n.below hb r.n.lt, r.e.below hb r.e.lt, r.N1, r.N2, r.K1, r.K2⟩ v h0

/-- A queue that is not there has no nodes to tell. -/
theorem each1_out (W : World) (l b1 b2 bq bn be N K : Nat) (i : Int) (hi : i < 0 ∨ K ≤ i) (h1 : Blk W b1 41 #[.pointer (some ⟨bq, 0, none⟩)]) (h2 : Blk W b2 3 #[.int .i64 i]) (hq : BlkQ W bq bn be N K) (hK : K ≤ 400) :
    Calls Try.prog 75 #[.func (.yield l) #[] #[], .pointer (some ⟨b1, 0, none⟩), .pointer (some ⟨b2, 0, none⟩)] W fun e W' => e = .returned (.tuple #[]) ∧ W = W' := by
  have c1 := h1.cell
  have c2 := h2.cell
  have HI := Lib.hid hi
  clear hi
  go_enter Try.func75, Try.ntmps75
  go_wp2_with fail
  refine (queue_out W bq bn be N K hq hK i HI.out).mono ?_
  rintro e w' ⟨rfl, rfl⟩
  go_wp2_with fail
  refine bodyPost_ret (results_none rfl _ _ _) rfl ?_
  exact ⟨rfl, rfl⟩

theorem each_stops_out (n : Nat) (b1 b2 bq bn be N K : Nat) (L : Nat → List Nat) (i : Int) (hi : i < 0 ∨ K ≤ i) (W0 : World) (h1 : Blk W0 b1 41 #[.pointer (some ⟨bq, 0, none⟩)]) (h2 : Blk W0 b2 3 #[.int .i64 i]) (hA : AbsQ W0 bq bn be N K L) (Kp : World → World → Prop) :
    SeqStopsK Fence.wide n Try.prog 75 #[.pointer (some ⟨b1, 0, none⟩), .pointer (some ⟨b2, 0, none⟩)] (fun x : Nat => #[.int .i64 x]) Kp (fun xs => xs = []) (fun _ => False) 0 W0 := by
  obtain ⟨nd, en, r, v⟩ := hA
  intro l J Jx W hb hJ hJx hY h0
  refine callsIn_wide.2 ((each1_out W l b1 b2 bq bn be N K i hi (h1.below hb h1.lt) (h2.below hb h2.lt) (Blk.below r.q hb r.q.lt) r.K2).mono ?_)
  rintro e W' ⟨rfl, rfl⟩
  exact ⟨⟨_, rfl⟩, .inl ⟨[], rfl, h0⟩⟩
end Go.Proofs.Ytgddmkgmpibpgaa
