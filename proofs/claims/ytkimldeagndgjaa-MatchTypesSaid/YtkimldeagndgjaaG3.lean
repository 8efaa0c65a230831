/- Words and contracts: Seq FifoF Range Round LadJ LadK FifoS SeqM. -/
import Derived.RangeFuncNested
import Derived.RangeFuncBound
import Derived.RangeFuncCalls
import Derived.RangeFuncLeaves
import Derived.RangeFuncFrom
import Derived.Shelf.Abstract
import Derived.Shelf.RegionOpen
import Derived.OwnWalkIn
import Derived.TacticsInMore
import Derived.LoopNIn
import Derived.LoopIn
import Derived.Deep.Quiet
import Derived.Test.YtkimldeagndgjaaG0
import Derived.Test.YtkimldeagndgjaaG1
import Derived.Test.YtkimldeagndgjaaG2
/- Words for loops over iterators: what a round keeps, and invariants that abide the loop's own records. No program stands in this text. -/
namespace Go.Proofs.Ytkimldeagndgjaa
set_option linter.unusedVariables false
set_option linter.unusedSimpArgs false
open Go.RowKit Go.Shelf

/-- The blocks of S lie as they lay. -/
def Same (S : List Nat) (W W' : World) : Prop := W.heap.size ≤ W'.heap.size ∧ ∀ k ∈ S, W'.heap[k]? = W.heap[k]?
theorem Same.refl (S : List Nat) (W : World) : Same S W W := ⟨Nat.le_refl _, fun _ _ => rfl⟩
theorem Same.trans {S : List Nat} {A B C : World} (h : Same S A B) (k : Same S B C) : Same S A C := ⟨Nat.le_trans h.1 k.1, fun i hi => (k.2 i hi).trans (h.2 i hi)⟩
theorem Same.blk {S : List Nat} {W W' : World} {g : Nat} {t : TypeId} {cs : Array Value} (h : Same S W W') (hg : g ∈ S) (b : Blk W g t cs) : Blk W' g t cs := (h.2 g hg).trans b
theorem Same.of_fr {S T : List Nat} {W W' : World} (h : Fr T W W') (hd : ∀ k ∈ S, k ∉ T) (hl : ∀ k ∈ S, k < W.heap.size) : Same S W W' := ⟨h.size, fun k hk => h.block k (hl k hk) (hd k hk)⟩
theorem same_t {S : List Nat} {A B C : World} (h : Same S A B) (k : Same S B C) : Same S A C := h.trans k
theorem same_b {S : List Nat} {w : World} (hS : ∀ k ∈ S, k < w.heap.size) (W : World) (l : Nat) (o o' : Obj) (hl : w.heap.size ≤ l) (h : W.heap[l]? = some o) (_ : o.isCells = false) (_ : o.isWalk = false) : Same S W (W.putObj l o') :=
  ⟨by simp, fun k hk => World.putObj_heap_other (fun e => by have := hS k hk; omega)⟩

theorem fr_grown {S : List Nat} {a W W' : World} {row : Option Nat} (h : Fr S a W) (hg : W.grownBy W' row) (hr : ∀ r, row = some r → a.heap.size ≤ r) : Fr S a W' :=
  ⟨hg.os.trans h.os, hg.tape.trans h.tape, hg.output.trans h.output, Nat.le_trans h.size hg.size, fun k hk hn => (hg.block k (Nat.lt_of_lt_of_le hk h.size) (fun e => by have := hr k e.symm; omega)).trans (h.block k hk hn)⟩
theorem ownFrom_fr {β : Type} {S : List Nat} {a : World} {B : Nat} (hB : a.heap.size ≤ B) : OwnFrom B (fun (_ : β) W => Fr S a W) :=
  fun _ _ _ _ hs hg hr => fr_grown hs hg (fun r e => Nat.le_trans hB (hr r e).1)
theorem blk_grown {W W' : World} {row : Option Nat} {g : Nat} {t : TypeId} {cs : Array Value} (h : Blk W g t cs) (hg : W.grownBy W' row) (hr : ∀ r, row = some r → ∃ o : Obj, W.heap[r]? = some o ∧ o.isCells = false) : Blk W' g t cs :=
  (hg.block g h.lt (fun e => by
    obtain ⟨o, ho, hc⟩ := hr g e.symm
    rw [show W.heap[g]? = _ from h] at ho
    cases ho
    cases hc)).trans h
theorem own_blk {β : Type} (g : Nat) (t : TypeId) (f : β → Array Value) : Own (fun s W => Blk W g t (f s)) := fun _ _ _ _ hs hg hr => blk_grown hs hg hr

theorem wp_name_act {P : Program} {c : Code} {Q : Exit → Act → World → Prop} {a : Act} {w : World} (h : ∀ A, A = a → Code.wp P c Q A w) : Code.wp P c Q a w := h a rfl
/-- The frame behind the laying of what an iterator tells. -/
def layd (A : Act) (ps : Array Tmp) (vs : Array Value) : Act := { tmps := (ps.zip vs).foldl (fun t (p, v) => t.setIfInBounds p v) A.tmps, defers := [] }
theorem fr_put {S : List Nat} {a W : World} (h : Fr S a W) {D : Nat} {o : Obj} (hD : a.heap.size ≤ D) : Fr S a (W.putObj D o) := fr_grown h (grownBy_putObj' W D o) (fun r e => by cases e; exact hD)
theorem blk_put {W : World} {g : Nat} {t : TypeId} {cs : Array Value} (h : Blk W g t cs) {D : Nat} {o o' : Obj} (hD : W.heap[D]? = some o) (ho : o.isCells = false) : Blk (W.putObj D o') g t cs :=
  blk_grown h (grownBy_putObj' W D o') (fun r e => by cases e; exact ⟨o, hD, ho⟩)
/-- The block for the rounds' deferred calls is kept where no block is turned but of S. -/
theorem def_fr {S : List Nat} {W W' : World} {D : Nat} {o : Obj} (hf : Fr S W W') (hD : W.heap[D]? = some o) (hS : D ∉ S) : W'.heap[D]? = some o := (hf.block D (Array.getElem?_eq_some_iff.1 hD).1 hS).trans hD

/-- The rest of a list, behind which an iterator by links stands: a measure. -/
def leftOf (l : List Nat) (v : Value) : Nat := match v with | .int _ z => if z = -1 then 0 else l.length - l.idxOf z.toNat | _ => 0

theorem idxOf_split {l A B : List Nat} {x : Nat} (hn : l.Nodup) (h : l = A ++ x :: B) : l.idxOf x = A.length := by
  subst h
  have : x ∉ A := fun hx => by
    have := (List.nodup_append.1 hn).2.2 x hx x (by simp)
    exact this rfl
  rw [List.idxOf_append]
  simp [this]
end Go.Proofs.Ytkimldeagndgjaa

/- The queues' iterator, walked: a queue's nodes, in order. -/
namespace Go.Proofs.Ytkimldeagndgjaa
set_option linter.unusedVariables false
set_option linter.unusedSimpArgs false
open Go.RowKit Go.Shelf
attribute [local go_sem] Oper.semAt_some

theorem each_mk (w : World) (q : Value) (i : Int) (hq : ∃ a, q = .pointer a) :
    Calls Try.prog 101 #[q, .int .i64 i] w fun e w' => e = .returned (.func (.func 143) #[] #[.pointer (some ⟨w.heap.size, 0, none⟩), .pointer (some ⟨w.heap.size + 1, 0, none⟩)]) ∧ (w.alloc (.cells #[q] 134)).alloc (.cells #[.int .i64 i] 3) = w' := by
  obtain ⟨a, rfl⟩ := hq
  have hmf : ∀ (fn : Fn) (first cap : Array Value) (w : World), (Instr.makeFunc fn first cap).run Try.prog w = .ok (.func fn first cap) w := fun _ _ _ _ => rfl
  go_enter Try.func101, Try.ntmps101
  go_wp2
  go_ret
  exact ⟨rfl, rfl⟩

theorem each1_nil (n : Nat) (W : World) (l b1 b2 : Nat) (i : Int) (h1 : Blk W b1 134 #[.pointer none]) (h2 : Blk W b2 3 #[.int .i64 i]) :
    Calls Try.prog 143 #[.func (.yield l) #[] #[], .pointer (some ⟨b1, 0, none⟩), .pointer (some ⟨b2, 0, none⟩)] W fun e W' => e = .returned (.tuple #[]) ∧ W = W' := by
  have c1 := h1.cell
  have c2 := h2.cell
  go_enter Try.func143, Try.ntmps143
  go_wp2_with fail
  refine (queue_nil W i).mono ?_
  rintro e w' ⟨rfl, rfl⟩
  go_wp2_with fail
  refine bodyPost_ret (results_none rfl _ _ _) rfl ?_
  exact ⟨rfl, rfl⟩

theorem each_stops_nil (n : Nat) (W0 : World) (b1 b2 : Nat) (i : Int) (h1 : Blk W0 b1 134 #[.pointer none]) (h2 : Blk W0 b2 3 #[.int .i64 i]) (Kp : World → World → Prop) :
    SeqStopsK Fence.wide n Try.prog 143 #[.pointer (some ⟨b1, 0, none⟩), .pointer (some ⟨b2, 0, none⟩)] (fun x : Nat => #[.int .i64 x]) Kp (fun xs => xs = []) (fun _ => False) 0 W0 := by
  intro l J Jx W hb hJ hJx hY h0
  refine callsIn_wide.2 ((each1_nil n W l b1 b2 i (h1.below hb h1.lt) (h2.below hb h2.lt)).mono ?_)
  rintro e W' ⟨rfl, rfl⟩
  exact ⟨⟨_, rfl⟩, .inl ⟨[], rfl, h0⟩⟩

set_option maxHeartbeats 1000000 in
theorem each1_in (n : Nat) (hn : 1 ≤ n) (l b1 b2 bq bn be N K : Nat) (L : Nat → List Nat) (i : Nat) (hi : i < K) (J Jx : List Nat → World → Prop)
    (hY : ∀ pre x W, J pre W → pre.length < (L i).length → YieldAt Fence.wide (n - 1) Try.prog l #[.int .i64 ((x : Nat) : Int)] W fun e W' =>
      (e = .returned (.bool true) ∧ J (pre ++ [x]) W' ∧ Same [b1, b2, bq, bn, be] W W') ∨ (e = .returned (.bool false) ∧ Jx (pre ++ [x]) W'))
    (W : World) (h1 : Blk W b1 134 #[.pointer (some ⟨bq, 0, none⟩)]) (h2 : Blk W b2 3 #[.int .i64 i]) (nd : Nat → Link) (en : Nat → Ends) (hr : RepQ W bq bn be N K nd en) (hv : QInv N K L nd en) (h0 : J [] W) :
    CallsIn Fence.wide n Try.prog 143 #[.func (.yield l) #[] #[], .pointer (some ⟨b1, 0, none⟩), .pointer (some ⟨b2, 0, none⟩)] W fun e W' => (∃ v, e = .returned v) ∧
      ((∃ ys, ys = L i ∧ J ys W') ∨ (∃ pre, pre <+: L i ∧ Jx pre W')) := by
  have c1 := h1.cell
  have c2 := h2.cell
  have e1 := hr.e.at0 hi (show 0 < 3 by omega)
  simp only [endsC, hv.een i hi] at e1
  have hF : ∀ k, Fence.wide.fn k := fun _ => trivial
  refine callsIn_of_wp Try.func143 rfl trivial ?_ rfl
  simp only [Try.ntmps143, List.size_toArray, List.length_cons, List.length_nil, Nat.reduceAdd, Nat.reduceSub, Array.replicate_succ, Array.replicate_zero, List.push_toArray, List.append_toArray, List.nil_append, List.cons_append]
  gi_wp2_with (gi_at_call 135; refine (callsIn_wide.2 (queue_in _ bq bn be N K hr.q hr.K2 i hi)).mono ?_; rintro e w' ⟨rfl, rfl⟩)
  gi_loopw [5] (fun p wr => ∃ pre rest : List Nat, p = .int .i64 (ptr rest.head?) ∧ L i = pre ++ rest ∧ RepQ wr bq bn be N K nd en ∧ Blk wr b1 134 #[.pointer (some ⟨bq, 0, none⟩)] ∧ Blk wr b2 3 #[.int .i64 i] ∧ J pre wr) (fun p _ => leftOf (L i) p)
  case atStart => exact ⟨[], L i, rfl, rfl, hr, h1, h2, h0⟩
  case round =>
    obtain ⟨pre, rest, rfl, hx, r, k1, k2, hJs⟩ := hrel
    have HX := Lib.hid hx
    clear hx c1 c2 e1
    cases rest with
    | nil =>
      have hp : ptr ([] : List Nat).head? = -1 := rfl
      rw [hp]
      clear hp
      gi_wp2
      go_end0
      exact ⟨⟨_, rfl⟩, .inl ⟨pre, by rw [HX.out]; simp, hJs⟩⟩
    | cons x rest =>
      obtain ⟨hxN, hlx⟩ := hv.lnk i hi pre x rest HX.out
      have hp : ptr (x :: rest).head? = (x : Int) := rfl
      rw [hp]
      clear hp
      have hne : (((x : Nat) : Int) == -1) = false := by first | (simp; done) | (simp; omega)
      have hne2 : (((x : Nat) : Int) != -1) = true := by first | (simp; done) | (simp; omega)
      obtain ⟨fn, tmps, assign, body, hy, hR⟩ := hY pre x wr hJs (by rw [HX.out]; simp)
      gi_wp2
      refine hR.mono ?_
      rintro e W3 (⟨rfl, hJ3, hk3⟩ | ⟨rfl, hJx3⟩)
      · have r3 : RepQ W3 bq bn be N K nd en := ⟨hk3.blk (by simp) r.q, hk3.blk (by simp) r.n, hk3.blk (by simp) r.e, r.N1, r.N2, r.K1, r.K2⟩
        have q1 := hk3.blk (by simp) k1
        have q2 := hk3.blk (by simp) k2
        have d1 := q1.cell
        have d2 := r3.q.cell
        have d3 := r3.n.at hxN (show 1 < 3 by omega)
        simp only [linkC, hlx] at d3
        have hN2 := r.N2
        clear hne hne2
        gi_wp2
        go_roundw
        case rel => exact ⟨pre ++ [x], rest, rfl, by rw [HX.out]; simp, r3, q1, q2, hJ3⟩
        case measure =>
          have hnd := hv.nodup i hi
          have i1 : (L i).idxOf x = pre.length := idxOf_split hnd HX.out
          have l1 : (L i).length = pre.length + 1 + rest.length := by rw [HX.out]; simp; omega
          have m1 : leftOf (L i) (.int .i64 (x : Int)) = rest.length + 1 := by
            simp only [leftOf]
            rw [if_neg (by omega), Int.toNat_natCast, i1]; omega
          rw [m1]
          cases rest with
          | nil => simp [leftOf, ptr]
          | cons y rest =>
            have i2 : (L i).idxOf y = pre.length + 1 := by
              have := idxOf_split (A := pre ++ [x]) (B := rest) (x := y) hnd (by rw [HX.out]; simp)
              simpa using this
            have hp : ptr (y :: rest).head? = (y : Int) := rfl
            rw [hp]
            simp only [leftOf]
            rw [if_neg (by omega), Int.toNat_natCast, i2]
            simp at l1 ⊢
            omega
      · gi_wp2
        refine bodyPost_ret (results_none rfl _ _ _) rfl ?_
        exact ⟨⟨_, rfl⟩, .inr ⟨pre ++ [x], ⟨rest, by rw [HX.out]; simp⟩, hJx3⟩⟩

theorem each_stops (n : Nat) (hn : 1 ≤ n) (b1 b2 bq bn be N K : Nat) (L : Nat → List Nat) (i : Nat) (hi : i < K) (W0 : World) (h1 : Blk W0 b1 134 #[.pointer (some ⟨bq, 0, none⟩)]) (h2 : Blk W0 b2 3 #[.int .i64 i]) (hA : AbsQ W0 bq bn be N K L) :
    SeqStopsK Fence.wide n Try.prog 143 #[.pointer (some ⟨b1, 0, none⟩), .pointer (some ⟨b2, 0, none⟩)] (fun x : Nat => #[.int .i64 x]) (Same [b1, b2, bq, bn, be]) (fun xs => xs = L i) (fun pre => pre <+: L i) (L i).length W0 := by
  obtain ⟨nd, en, r, v⟩ := hA
  intro l J Jx W hb hJ hJx hY h0
  exact each1_in n hn l b1 b2 bq bn be N K L i hi J Jx hY W (h1.below hb h1.lt) (h2.below hb h2.lt) nd en
    ⟨Blk.below r.q hb r.q.lt, r.n.below hb r.n.lt, r.e.below hb r.e.lt, r.N1, r.N2, r.K1, r.K2⟩ v h0

/-- A queue that is not there has no nodes to tell. -/
theorem each1_out (W : World) (l b1 b2 bq bn be N K : Nat) (i : Int) (hi : i < 0 ∨ K ≤ i) (h1 : Blk W b1 134 #[.pointer (some ⟨bq, 0, none⟩)]) (h2 : Blk W b2 3 #[.int .i64 i]) (hq : BlkQ W bq bn be N K) (hK : K ≤ 400) :
    Calls Try.prog 143 #[.func (.yield l) #[] #[], .pointer (some ⟨b1, 0, none⟩), .pointer (some ⟨b2, 0, none⟩)] W fun e W' => e = .returned (.tuple #[]) ∧ W = W' := by
  have c1 := h1.cell
  have c2 := h2.cell
  have HI := Lib.hid hi
  clear hi
  go_enter Try.func143, Try.ntmps143
  go_wp2_with fail
  refine (queue_out W bq bn be N K hq hK i HI.out).mono ?_
  rintro e w' ⟨rfl, rfl⟩
  go_wp2_with fail
  refine bodyPost_ret (results_none rfl _ _ _) rfl ?_
  exact ⟨rfl, rfl⟩

theorem each_stops_out (n : Nat) (b1 b2 bq bn be N K : Nat) (L : Nat → List Nat) (i : Int) (hi : i < 0 ∨ K ≤ i) (W0 : World) (h1 : Blk W0 b1 134 #[.pointer (some ⟨bq, 0, none⟩)]) (h2 : Blk W0 b2 3 #[.int .i64 i]) (hA : AbsQ W0 bq bn be N K L) (Kp : World → World → Prop) :
    SeqStopsK Fence.wide n Try.prog 143 #[.pointer (some ⟨b1, 0, none⟩), .pointer (some ⟨b2, 0, none⟩)] (fun x : Nat => #[.int .i64 x]) Kp (fun xs => xs = []) (fun _ => False) 0 W0 := by
  obtain ⟨nd, en, r, v⟩ := hA
  intro l J Jx W hb hJ hJx hY h0
  refine callsIn_wide.2 ((each1_out W l b1 b2 bq bn be N K i hi (h1.below hb h1.lt) (h2.below hb h2.lt) (Blk.below r.q hb r.q.lt) r.K2).mono ?_)
  rintro e W' ⟨rfl, rfl⟩
  exact ⟨⟨_, rfl⟩, .inl ⟨[], rfl, h0⟩⟩
end Go.Proofs.Ytkimldeagndgjaa

/- Ranges over iterators whose caller's words abide an inner loop's own records: an iterator may range over iterators. (Turned from the kit's laws wpIn_rangeFunc_ownH and .._ownN.) No program stands in this text. -/
namespace Go.Proofs.Ytkimldeagndgjaa
set_option linter.unusedVariables false
set_option linter.unusedSimpArgs false
open Go.RowKit Go.Shelf

theorem yieldAt_to {m m' : Nat} {P : Program} {l : Nat} {args : Array Value} {W : World} {R : Ending → World → Prop} (h : YieldAt Fence.wide m P l args W R) : YieldAt Fence.wide m' P l args W R := by
  obtain ⟨fn, tmps, assign, body, hy, hR⟩ := h
  exact ⟨fn, tmps, assign, body, hy, hR.1, fun c cs _ => hR.2 c cs (room_wide _)⟩

/-- What an iterator over L owes: T: the blocks that a round must leave as they lay. -/
def SeqOwn {α : Type} (P : Program) (g : Nat) (lb : Array Value) (encs : α → Array Value) (T : List Nat) (L : List α) (w : World) : Prop :=
  ∀ (l : Nat) (J Jx : List α → World → Prop) (W : World), Below w.heap.size w W → OwnFrom W.heap.size J → OwnFrom W.heap.size Jx →
    (∀ pre x W1, J pre W1 → pre ++ [x] <+: L → YieldAt Fence.wide 0 P l (encs x) W1 fun e W' => KeepsFrom W.heap.size W1 W' ∧
      ((e = .returned (.bool true) ∧ J (pre ++ [x]) W' ∧ Same T W1 W') ∨ (e = .returned (.bool false) ∧ Jx (pre ++ [x]) W'))) →
    J [] W → Calls P g (#[.func (.yield l) #[] #[]] ++ lb) W fun e W' => (∃ v, e = .returned v) ∧ (J L W' ∨ ∃ pre, pre <+: L ∧ Jx pre W')

theorem own_up {β : Type} {B B' : Nat} {I : β → World → Prop} (h : OwnFrom B I) (hB : B ≤ B') : OwnFrom B' I := fun s W W' row hs hg hr => h s W W' row hs hg (fun r e => ⟨Nat.le_trans hB (hr r e).1, (hr r e).2⟩)

theorem same_putObj {T : List Nat} {W : World} {l : Nat} (hT : ∀ t ∈ T, t ≠ l) (o : Obj) : Same T W (W.putObj l o) := ⟨by simp, fun k hk => World.putObj_heap_other (fun e => hT k hk e)⟩
theorem keeps_putObj {B : Nat} {W : World} {l : Nat} (hB : l < B) (o : Obj) : KeepsFrom B W (W.putObj l o) := ⟨by simp, fun k o' hk h _ => (World.putObj_heap_other (by omega)).trans h⟩
theorem keeps_up {B B' : Nat} {W W' : World} (h : KeepsFrom B W W') (hB : B ≤ B') : KeepsFrom B' W W' := ⟨h.size, fun k o hk => h.same k o (Nat.le_trans hB hk)⟩

section
variable {α : Type} {P : Program} {F : Fence} {g : Operand} {ps : Array Tmp} {assign body : Code} {Q : Exit → Act → World → Prop} {a : Act} {w : World}

/-- The loop's record. -/
def recOf (a : Act) (ps : Array Tmp) (assign body : Code) (d : Nat) (fn : FuncId) (st : LoopState) (pe : Option Code) : Loop := { state := st, pending := pe, fn, tmps := a.tmps, params := ps, assign, body, defers := d }

/-- The rounds and what stands behind them, once the record l lies. -/
theorem range_core (hF : F = Fence.wide ∨ ∃ l₀, F = Fence.wide.inRound l₀) {l d : Nat} {mark : List Deferred} (W1 : FuncId → World)
    (henter : ∀ fn, (Instr.enterLoop fn a.tmps ps assign body F.round).run P w = .ok (l, mark) (W1 fn)) (hl1 : ∀ fn, (W1 fn).heap[l]? = some (.loop (recOf a ps assign body d fn .ready none))) (hsz : ∀ fn, (W1 fn).heap.size = l + 1)
    {gf : Nat} {lb : Array Value} (hg : a.eval g = .func (.func gf) #[] lb) (eg : ∀ args w, (callFunc gf args).run P w = .ok (.enter gf args) w)
    {encs : α → Array Value} {T : List Nat} {L : List α} {w0 : World} (hseq : SeqOwn P gf lb encs T L w0) (hb0 : ∀ fn, Below w0.heap.size w0 (W1 fn)) (hps : ∀ x, (encs x).size = ps.size)
    (B : Nat) (hB : B ≤ l) (hT : ∀ t ∈ T, t < l) (I : List α → World → Prop) (Ix : Code → List α → World → Prop) (Ia : List α → α → Act → World → Prop)
    (hI : OwnFrom (l + 1) I) (hIx : ∀ c, OwnFrom (l + 1) (Ix c))
    (pI : ∀ pre W r r', I pre W → W.heap[l]? = some (.loop r) → I pre (W.putObj l (.loop r'))) (pIx : ∀ c pre W r r', Ix c pre W → W.heap[l]? = some (.loop r) → Ix c pre (W.putObj l (.loop r')))
    (pIa : ∀ pre x a' W r r', Ia pre x a' W → W.heap[l]? = some (.loop r) → Ia pre x a' (W.putObj l (.loop r'))) (h0 : ∀ fn, I [] (W1 fn))
    (hassign : ∀ (pre : List α) (x : α) (W : World) (K : Act → World → Prop), I pre W → pre ++ [x] <+: L → (∀ a' W', KeepsFrom B W W' → Same T W W' → Ia pre x a' W' → K a' W') →
      assign.wpIn (Fence.wide.inRound l) 0 P (Exit.then K (fun _ _ _ => False)) { tmps := (ps.zip (encs x)).foldl (fun t (p, v) => t.setIfInBounds p v) a.tmps, defers := [] } W)
    (hbody : ∀ (pre : List α) (x : α) (a' : Act) (W : World), (∃ r, W.heap[l]? = some (.loop r)) → Ia pre x a' W → pre ++ [x] <+: L → body.wpIn (Fence.wide.inRound l) 0 P (ownPostG B (Same T) I Ix (pre ++ [x]) W) a' W)
    (hdone : ∀ (W : World), I L W → Q .normal { a with defers := mark ++ a.defers } W)
    (hstop : ∀ (c : Code) (pre : List α) (W : World), pre <+: L → Ix c pre W → c.wpIn F 0 P Q { a with defers := mark ++ a.defers } W) :
    (Code.rangeFunc g ps assign body).wpIn F 0 P Q a w := by
  refine wpIn_rangeFunc ?_
  intro fn hfn
  have hcore : Calls P gf (#[.func (.yield l) #[] #[]] ++ lb) (W1 fn) (rangePost F 0 P l Q { a with defers := mark ++ a.defers }) := by
    refine (hseq l (fun pre W => I pre W ∧ W.heap[l]? = some (.loop (recOf a ps assign body d fn .ready none)))
      (fun pre W => ∃ c, Ix c pre W ∧ W.heap[l]? = some (.loop (recOf a ps assign body d fn .done (some c)))) (W1 fn) (hb0 fn) ?_ ?_ ?_ ⟨h0 fn, hl1 fn⟩).mono ?_
    · rw [hsz fn]
      exact fun s A C row hs hgr hr => ⟨hI s A C row hs.1 hgr hr, (hgr.block l (Array.getElem?_eq_some_iff.1 hs.2).1 (fun e => by have := (hr l e.symm).1; omega)).trans hs.2⟩
    · rw [hsz fn]
      rintro s A C row ⟨c, hc, hl⟩ hgr hr
      exact ⟨c, hIx c s A C row hc hgr hr, (hgr.block l (Array.getElem?_eq_some_iff.1 hl).1 (fun e => by have := (hr l e.symm).1; omega)).trans hl⟩
    · rintro pre x W ⟨hi, hl⟩ hpx
      have hy := run_yield (P := P) (args := encs x) hl (hps x)
      refine ⟨fn, _, assign, body, hy, roundIn_of_wpIn trivial (hassign pre x W _ hi hpx ?_)⟩
      intro a' Wa hka hsa hia
      have hla := hka.same _ _ hB hl rfl
      refine ⟨_, run_beginRound hla rfl, ?_⟩
      have hlt : l < Wa.heap.size := (Array.getElem?_eq_some_iff.1 hla).1
      have hl2 := World.putObj_heap_same (o := .loop { recOf a ps assign body d fn .ready none with state := .busy }) hlt
      refine wpIn_mono (hbody pre x a' _ ⟨_, hl2⟩ (pIa _ _ _ _ _ _ hia hla) hpx) ?_
      have hTl : ∀ t ∈ T, t ≠ l := fun t ht e => by have := hT t ht; omega
      have fin : ∀ (jump : Option Code) (W3 : World), KeepsFrom B (Wa.putObj l (.loop { recOf a ps assign body d fn .ready none with state := .busy })) W3 →
          ∃ r3, W3.heap[l]? = some (.loop r3) ∧ (Instr.endRound l jump).run P W3 = .ok (.bool jump.isNone) (W3.putObj l (.loop (recOf a ps assign body d fn (if jump.isNone then .ready else .done) jump))) ∧
          (W3.putObj l (.loop (recOf a ps assign body d fn (if jump.isNone then .ready else .done) jump))).heap[l]? = some (.loop (recOf a ps assign body d fn (if jump.isNone then .ready else .done) jump)) ∧
          KeepsFrom (W1 fn).heap.size W (W3.putObj l (.loop (recOf a ps assign body d fn (if jump.isNone then .ready else .done) jump))) := fun jump W3 hk3 => by
        have hl3 := hk3.same _ _ hB hl2 rfl
        refine ⟨_, hl3, run_endRound (P := P) jump hl3, World.putObj_heap_same (Array.getElem?_eq_some_iff.1 hl3).1, ?_⟩
        rw [hsz fn]
        exact (((keeps_up hka (by omega)).trans (keeps_putObj (by omega) _)).trans (keeps_up hk3 (by omega))).trans (keeps_putObj (by omega) _)
      rintro e a3 W3 hp
      cases e with
      | normal =>
        obtain ⟨hk3, hs3, hi3⟩ := hp
        obtain ⟨r3, hl3, hr, hl4, hk4⟩ := fin none W3 hk3
        exact ⟨_, _, hr, hk4, .inl ⟨rfl, ⟨pI _ _ _ _ hi3 hl3, hl4⟩, ((hsa.trans (same_putObj hTl _)).trans hs3).trans (same_putObj hTl _)⟩⟩
      | ret =>
        obtain ⟨hk3, hi3⟩ := hp
        obtain ⟨r3, hl3, hr, hl4, hk4⟩ := fin (some .ret) W3 hk3
        exact ⟨_, _, hr, hk4, .inr ⟨rfl, .ret, pIx _ _ _ _ _ hi3 hl3, hl4⟩⟩
      | exit id =>
        obtain ⟨hk3, hi3⟩ := hp
        obtain ⟨r3, hl3, hr, hl4, hk4⟩ := fin (some (.exit id)) W3 hk3
        exact ⟨_, _, hr, hk4, .inr ⟨rfl, .exit id, pIx _ _ _ _ _ hi3 hl3, hl4⟩⟩
      | goto t =>
        obtain ⟨hk3, hi3⟩ := hp
        obtain ⟨r3, hl3, hr, hl4, hk4⟩ := fin (some (.goto t)) W3 hk3
        exact ⟨_, _, hr, hk4, .inr ⟨rfl, .goto t, pIx _ _ _ _ _ hi3 hl3, hl4⟩⟩
      | panic ch => exact hp.elim
      | outgrown => exact hp.elim
    · rintro e W2 ⟨⟨v, rfl⟩, (⟨hi, hl⟩ | ⟨pre, hpre, c, hi, hl⟩)⟩
      · exact ⟨none, _, run_endLoop (P := P) hl (by simp [recOf]), hdone _ (pI _ _ _ _ hi hl)⟩
      · exact ⟨some c, _, run_endLoop (P := P) hl (by simp [recOf]), hstop c pre _ hpre (pIx _ _ _ _ _ hi hl)⟩
  refine ⟨l, mark, W1 fn, { target := .fn (.func gf) lb, args := #[.func (.yield l) #[] #[]] }, W1 fn, gf, #[.func (.yield l) #[] #[]] ++ lb, W1 fn, henter fn, ?_, ?_, ?_, ?_, ?_⟩
  · simp only [resolve, hg]
    simp [go_sem]
  · rintro f' _
    rcases hF with rfl | ⟨l₀, rfl⟩ <;> trivial
  · simp [invoke, go_sem, eg]
  · intro hd
    rcases hF with rfl | ⟨l₀, rfl⟩ <;> simp [Fence.wide, Fence.inRound] at hd
  · rcases hF with rfl | ⟨l₀, rfl⟩
    · exact callsIn_wide.2 hcore
    · exact CallsIn.inRound l₀ (callsIn_wide.2 hcore)

/-- A range over an iterator in a function's own frame. -/
theorem range_outer {gf : Nat} {lb : Array Value} (hg : a.eval g = .func (.func gf) #[] lb) (eg : ∀ args w, (callFunc gf args).run P w = .ok (.enter gf args) w)
    {encs : α → Array Value} {T : List Nat} {L : List α} {w0 : World} (hseq : SeqOwn P gf lb encs T L w0) (hb0 : Below w0.heap.size w0 w) (hps : ∀ x, (encs x).size = ps.size) (hT : ∀ t ∈ T, t < w.heap.size)
    (I : List α → World → Prop) (Ix : Code → List α → World → Prop) (Ia : List α → α → Act → World → Prop)
    (hI : OwnFrom w.heap.size I) (hIx : ∀ c, OwnFrom w.heap.size (Ix c)) (hIa : ∀ pre x, OwnFrom w.heap.size (Ia pre x)) (h0 : I [] w)
    (hassign : ∀ (l : Nat) (pre : List α) (x : α) (W : World) (K : Act → World → Prop), I pre W → pre ++ [x] <+: L → (∀ a' W', KeepsFrom w.heap.size W W' → Same T W W' → Ia pre x a' W' → K a' W') →
      assign.wpIn (Fence.wide.inRound l) 0 P (Exit.then K (fun _ _ _ => False)) { tmps := (ps.zip (encs x)).foldl (fun t (p, v) => t.setIfInBounds p v) a.tmps, defers := [] } W)
    (hbody : ∀ (l : Nat) (pre : List α) (x : α) (a' : Act) (W : World), w.heap.size ≤ l → (∃ r, W.heap[l]? = some (.loop r)) → Ia pre x a' W → pre ++ [x] <+: L → body.wpIn (Fence.wide.inRound l) 0 P (ownPostG w.heap.size (Same T) I Ix (pre ++ [x]) W) a' W)
    (hdone : ∀ (D : Nat) (W : World), w.heap.size ≤ D → I L W → W.heap[D]? = some (.deferred (some [])) → Q .normal { a with defers := { target := .collected D, args := #[] } :: a.defers } W)
    (hstop : ∀ (D : Nat) (c : Code) (pre : List α) (W : World), w.heap.size ≤ D → pre <+: L → Ix c pre W → W.heap[D]? = some (.deferred (some [])) → c.wpIn Fence.wide 0 P Q { a with defers := { target := .collected D, args := #[] } :: a.defers } W) :
    (Code.rangeFunc g ps assign body).wpIn Fence.wide 0 P Q a w := by
  have hkeep : ∀ {W W' : World}, KeepsFrom w.heap.size W W' → W.heap[w.heap.size]? = some (.deferred (some [])) → W'.heap[w.heap.size]? = some (.deferred (some [])) := fun hk h => hk.same _ _ (Nat.le_refl _) h rfl
  have hown : ∀ {β : Type}, OwnFrom (w.heap.size + 1 + 1) (fun (_ : β) (W : World) => W.heap[w.heap.size]? = some (.deferred (some []))) := fun s A C row hs hgr hr => (hgr.block _ (Array.getElem?_eq_some_iff.1 hs).1 (fun e => by have := (hr _ e.symm).1; omega)).trans hs
  have hput : ∀ (W : World) (o : Obj), W.heap[w.heap.size]? = some (.deferred (some [])) → (W.putObj (w.heap.size + 1) o).heap[w.heap.size]? = some (.deferred (some [])) := fun W o h => (World.putObj_heap_other (by omega)).trans h
  refine range_core (.inl rfl) (l := w.heap.size + 1) (d := w.heap.size) (mark := [{ target := .collected w.heap.size, args := #[] }])
    (fun fn => (w.alloc (.deferred (some []))).alloc (.loop (recOf a ps assign body w.heap.size fn .ready none))) (fun fn => run_enterLoop_outer _ _ _ _ _)
    (fun fn => by have := World.alloc_heap_new (w.alloc (.deferred (some []))) (.loop (recOf a ps assign body w.heap.size fn .ready none)); rwa [World.size_alloc] at this) (fun fn => by simp) hg eg hseq
    (fun fn => hb0.trans ((((Below.refl _ w).alloc (Nat.le_refl _) _).alloc (by simp) _).mono hb0.size)) hps w.heap.size (by omega) (fun t ht => by have := hT t ht; omega)
    (fun pre W => I pre W ∧ W.heap[w.heap.size]? = some (.deferred (some []))) (fun c pre W => Ix c pre W ∧ W.heap[w.heap.size]? = some (.deferred (some []))) (fun pre x a' W => Ia pre x a' W ∧ W.heap[w.heap.size]? = some (.deferred (some [])))
    (OwnFrom.and (own_up hI (by omega)) hown) (fun c => OwnFrom.and (own_up (hIx c) (by omega)) hown)
    (fun pre W r r' h hl => ⟨hI.putObj _ h.1 (by omega) hl rfl, hput _ _ h.2⟩) (fun c pre W r r' h hl => ⟨(hIx c).putObj _ h.1 (by omega) hl rfl, hput _ _ h.2⟩) (fun pre x a' W r r' h hl => ⟨(hIa pre x).putObj _ h.1 (by omega) hl rfl, hput _ _ h.2⟩)
    (fun fn => ⟨hI.alloc _ (hI.alloc _ h0), (Below.heap_alloc _ _ _ (by simp)).trans (World.alloc_heap_new w _)⟩)
    (fun pre x W K hi hpx hK => hassign _ pre x W K hi.1 hpx (fun a' W' h1 h2 h3 => hK a' W' h1 h2 ⟨h3, hkeep h1 hi.2⟩))
    (fun pre x a' W hr hi hpx => wpIn_mono (hbody _ pre x a' W (by omega) hr hi.1 hpx) ?_)
    (fun W h => hdone _ W (Nat.le_refl _) h.1 h.2) (fun c pre W hpre h => hstop _ c pre W (Nat.le_refl _) hpre h.1 h.2)
  rintro e a3 W3 hp
  cases e with
  | normal => exact ⟨hp.1, hp.2.1, hp.2.2, hkeep hp.1 hi.2⟩
  | ret => exact ⟨hp.1, hp.2, hkeep hp.1 hi.2⟩
  | exit id => exact ⟨hp.1, hp.2, hkeep hp.1 hi.2⟩
  | goto t => exact ⟨hp.1, hp.2, hkeep hp.1 hi.2⟩
  | panic ch => exact hp.elim
  | outgrown => exact hp.elim

/-- .. within a round of loop l₀. -/
theorem range_inner {l₀ : Nat} {r₀ : Loop} (hl₀ : w.heap[l₀]? = some (.loop r₀)) {gf : Nat} {lb : Array Value} (hg : a.eval g = .func (.func gf) #[] lb) (eg : ∀ args w, (callFunc gf args).run P w = .ok (.enter gf args) w)
    {encs : α → Array Value} {T : List Nat} {L : List α} {w0 : World} (hseq : SeqOwn P gf lb encs T L w0) (hb0 : Below w0.heap.size w0 w) (hps : ∀ x, (encs x).size = ps.size) (hT : ∀ t ∈ T, t < w.heap.size)
    (I : List α → World → Prop) (Ix : Code → List α → World → Prop) (Ia : List α → α → Act → World → Prop)
    (hI : OwnFrom w.heap.size I) (hIx : ∀ c, OwnFrom w.heap.size (Ix c)) (hIa : ∀ pre x, OwnFrom w.heap.size (Ia pre x)) (h0 : I [] w)
    (hassign : ∀ (l : Nat) (pre : List α) (x : α) (W : World) (K : Act → World → Prop), I pre W → pre ++ [x] <+: L → (∀ a' W', KeepsFrom w.heap.size W W' → Same T W W' → Ia pre x a' W' → K a' W') →
      assign.wpIn (Fence.wide.inRound l) 0 P (Exit.then K (fun _ _ _ => False)) { tmps := (ps.zip (encs x)).foldl (fun t (p, v) => t.setIfInBounds p v) a.tmps, defers := [] } W)
    (hbody : ∀ (l : Nat) (pre : List α) (x : α) (a' : Act) (W : World), w.heap.size ≤ l → (∃ r, W.heap[l]? = some (.loop r)) → Ia pre x a' W → pre ++ [x] <+: L → body.wpIn (Fence.wide.inRound l) 0 P (ownPostG w.heap.size (Same T) I Ix (pre ++ [x]) W) a' W)
    (hdone : ∀ (W : World), I L W → Q .normal a W)
    (hstop : ∀ (c : Code) (pre : List α) (W : World), pre <+: L → Ix c pre W → c.wpIn (Fence.wide.inRound l₀) 0 P Q a W) :
    (Code.rangeFunc g ps assign body).wpIn (Fence.wide.inRound l₀) 0 P Q a w :=
  range_core (.inr ⟨l₀, rfl⟩) (l := w.heap.size) (d := r₀.defers) (mark := [])
    (fun fn => w.alloc (.loop (recOf a ps assign body r₀.defers fn .ready none))) (fun fn => run_enterLoop_inner hl₀ _ _ _ _ _)
    (fun fn => World.alloc_heap_new w _) (fun fn => by simp) hg eg hseq
    (fun fn => hb0.trans (((Below.refl _ w).alloc (Nat.le_refl _) _).mono hb0.size)) hps w.heap.size (Nat.le_refl _) hT
    I Ix Ia (own_up hI (by omega)) (fun c => own_up (hIx c) (by omega))
    (fun pre W r r' h hl => hI.putObj _ h (Nat.le_refl _) hl rfl) (fun c pre W r r' h hl => (hIx c).putObj _ h (Nat.le_refl _) hl rfl) (fun pre x a' W r r' h hl => (hIa pre x).putObj _ h (Nat.le_refl _) hl rfl)
    (fun fn => hI.alloc _ h0) (fun pre x W K hi hpx hK => hassign _ pre x W K hi hpx hK)
    (fun pre x a' W hr hi hpx => hbody _ pre x a' W (Nat.le_refl _) hr hi hpx)
    (fun W h => hdone W h) (fun c pre W hpre h => hstop c pre W hpre h)
end
end Go.Proofs.Ytkimldeagndgjaa

/- Regions that draw their order within a round of a loop over an iterator: the plain walks serve there too. No program stands in this text. -/
namespace Go.Proofs.Ytkimldeagndgjaa
set_option linter.unusedVariables false
set_option linter.unusedSimpArgs false
open Go.RowKit Go.Shelf

def noDefer (ops : Array Oper) : Bool := ops.all fun o => match o.op with | .defer _ => false | _ => true
theorem noDefer_spec {ops : Array Oper} (h : noDefer ops = true) {i : Nat} {o : Oper} (hi : ops[i]? = some o) (c : Call) : o.op ≠ .defer c := fun e => by
  unfold noDefer at h
  rw [Array.all_eq_true_iff_forall_mem] at h
  have := h o (Array.mem_of_getElem? hi)
  rw [e] at this
  cases this

section
variable {P : Program} {ops : Array Oper} {Q : Exit → Act → World → Prop} {l n : Nat}

theorem oper_in {o : Oper} {a : Act} {w : World} {K : Act → World → Prop} (hd : ∀ c, o.op ≠ .defer c) (h : o.wp P a w K Q) : o.wpIn (Fence.wide.inRound l) n P a w K Q := by
  refine ⟨fun _ _ => trivial, ?_⟩
  have hr : (Fence.wide.inRound l).round = some l := rfl
  rw [hr, Oper.semAt_some l _ _ hd]
  unfold Oper.wp at h
  generalize (execOp a.eval o).run P w = r at h ⊢
  have hnd : (Fence.wide.inRound l).depth.isSome = true → 1 ≤ n := fun hh => by cases hh
  match r, h with
  | .ok (.value v) w', h => exact h
  | .ok .skip w', h => exact h
  | .ok (.defer d) w', h => exact h
  | .ok (.enter f args) w', h => exact ⟨hnd, CallsIn.inRound l (callsIn_wide.2 h)⟩
  | .ok (.row row args) w', h =>
    refine ⟨hnd, fun c cs _ => ?_⟩
    obtain ⟨v, w'', hv, hs⟩ := h c cs
    exact ⟨v, w'', hv, stepsIn_wide.2 hs⟩
  | .halt (.panic v) w', h => exact h

theorem op_in {i : Nat} {K K' : Act → World → Prop} {a : Act} {w : World} (hd : noDefer ops = true) (hL : ¬ LetsOut Q) (hK : ∀ a w, K a w → K' a w) (h : wpOp P ops Q i K a w) : wpOpIn (Fence.wide.inRound l) n P ops Q i K' a w := by
  unfold wpOp at h
  unfold wpOpIn
  cases ho : ops[i]? with
  | none => rw [ho] at h; exact hK _ _ h
  | some o =>
    rw [ho] at h
    dsimp only at h ⊢
    split at h
    · rename_i hw
      rw [if_pos hw]
      rcases h with h | h
      · exact oper_in (noDefer_spec hd ho) (Oper.wp_mono hK h)
      · exact absurd h.2 hL
    · rename_i hw
      rw [if_neg hw]
      exact ⟨fun _ _ => trivial, hK _ _ h⟩

theorem any_in {md : Region.Mode} (hd : noDefer ops = true) (hL : ¬ LetsOut Q) : ∀ (fuel : Nat) (listed : Array Bool) (a : Act) (w : World), wpAny P md ops Q fuel listed a w → wpAnyIn (Fence.wide.inRound l) n P md ops Q fuel listed a w
  | 0, _, _, _, h => h
  | fuel + 1, listed, a, w, h => ⟨h.1, fun i hi => op_in hd hL (fun a' w' h' => any_in hd hL fuel _ a' w' h') (h.2 i hi)⟩

/-- u_region within a round. -/
theorem u_round {id : Nat} {a : Act} {w : World} (S : World → Prop) (st : Nat) (hd : noDefer ops = true) (hL : ¬ LetsOut Q) (hm : P.follows .mixedOrders = true) (h1 : Region.noSelect ops = true) (h2 : Region.sinkB .any ops st = true) (h3 : Region.chainB .any ops st = true) (h4 : st + 1 = ops.size)
    (hS : S w.drew) (h : U P .any ops Q S st ops.size (Array.replicate ops.size false) a w.drew) : (Code.region id ops true).wpIn (Fence.wide.inRound l) n P Q a w :=
  wpIn_region_any hm (any_in hd hL _ _ _ _ (any_of_u _ _ _ _ (h ⟨h1, h2, h3, h4⟩
    ⟨by simp, fun j oj _ hl => (by rw [getD_replicate_false] at hl; cases hl), fun t _ ht => getD_in (by simpa using ht) (getD_replicate_false _ _)⟩ hS)))

/-- A quiet region within a round. -/
theorem quiet_round {C : World → Prop} {id : Nat} {a : Act} {w : World} {ol : List Oper} (hd : noDefer ol.toArray = true) (hL : ¬ LetsOut Q) (hm : P.follows .mixedOrders = true) (hB : Region.lexB .any ol.toArray = true) (hC : C w.drew)
    (h : wpQuiet P ol.toArray C (fun a' => ∀ w', C w' → Q .normal a' w') ol a) : (Code.region id ol.toArray true).wpIn (Fence.wide.inRound l) n P Q a w := by
  simp only [Region.lexB, Bool.and_eq_true] at hB
  refine wpIn_region_any hm (any_in hd hL _ _ _ _ (wpAny_of_quiet (Q := fun a' => ∀ w', C w' → Q .normal a' w') (fun _ w' hw' h => h w' hw') _ _ _ _ hC ?_))
  have := wpAnyQ_lex (C := C) (md := .any) hB.1 ol.toArray.toList 0 (Array.replicate ol.toArray.size false) a (by simp) (by simpa using hB.2) h
  simpa using this
/-- .. whose callees at most make new blocks. -/
theorem soft_round {id : Nat} {a : Act} {w : World} {ol : List Oper} (hd : noDefer ol.toArray = true) (hL : ¬ LetsOut Q) (hm : P.follows .mixedOrders = true) (hB : Region.lexB .any ol.toArray = true)
    (h : wpQuiet P ol.toArray (Fr [] w) (fun a' => ∀ w', Fr [] w w' → Q .normal a' w') ol a) : (Code.region id ol.toArray true).wpIn (Fence.wide.inRound l) n P Q a w :=
  quiet_round (C := Fr [] w) hd hL hm hB (Fr.drew (Fr.refl [] _)) h
end
end Go.Proofs.Ytkimldeagndgjaa

/- The ladder's iterator, walked: the levels from the best on. -/
namespace Go.Proofs.Ytkimldeagndgjaa
set_option linter.unusedVariables false
set_option linter.unusedSimpArgs false
open Go.RowKit Go.Shelf
attribute [local go_sem] Oper.semAt_some

theorem lEach_mk (w : World) (q : Value) (hq : ∃ a, q = .pointer a) :
    Calls Try.prog 100 #[q] w fun e w' => e = .returned (.func (.func 142) #[] #[.pointer (some ⟨w.heap.size, 0, none⟩)]) ∧ w.alloc (.cells #[q] 133) = w' := by
  obtain ⟨a, rfl⟩ := hq
  have hmf : ∀ (fn : Fn) (first cap : Array Value) (w : World), (Instr.makeFunc fn first cap).run Try.prog w = .ok (.func fn first cap) w := fun _ _ _ _ => rfl
  go_enter Try.func100, Try.ntmps100
  go_wp2
  go_ret
  exact ⟨rfl, rfl⟩

theorem lEach1_nil (W : World) (l b1 : Nat) (h1 : Blk W b1 133 #[.pointer none]) :
    Calls Try.prog 142 #[.func (.yield l) #[] #[], .pointer (some ⟨b1, 0, none⟩)] W fun e W' => e = .returned (.tuple #[]) ∧ W = W' := by
  have c1 := h1.cell
  go_enter Try.func142, Try.ntmps142
  go_wp2_with fail
  refine bodyPost_ret (results_none rfl _ _ _) rfl ?_
  exact ⟨rfl, rfl⟩

theorem lEach_own_nil (W0 : World) (b1 : Nat) (T : List Nat) (h1 : Blk W0 b1 133 #[.pointer none]) :
    SeqOwn Try.prog 142 #[.pointer (some ⟨b1, 0, none⟩)] (fun x : Lvl => #[lvV x]) T [] W0 := by
  intro l J Jx W hb hJ hJx hY h0
  refine (lEach1_nil W l b1 (h1.below hb h1.lt)).mono ?_
  rintro e W' ⟨rfl, rfl⟩
  exact ⟨⟨_, rfl⟩, .inl h0⟩

theorem RowL.same {S : List Nat} {w w' : World} {v : Value} {n : Nat} {f : Nat → Lvl} (hk : Same S w w') (hS : ∀ g, v.ownBlock = some g → g ∈ S) (h : RowL w v n f) : RowL w' v n f := by
  rcases h with h | ⟨lb, cap, cur, rfl, h1, B, h2, h3⟩
  · exact .inl h
  · exact .inr ⟨lb, cap, cur, rfl, h1, hk.blk (hS lb rfl) B, h2, h3⟩
theorem LadR.same {S : List Nat} {w w' : World} {lp : Nat} {side most : Int} {v : Value} {u : Nat → Nat} {n : Nat} {f : Nat → Lvl} (hk : Same S w w') (h1 : lp ∈ S) (h2 : ∀ g, v.ownBlock = some g → g ∈ S) (h : LadR w lp side most v u n f) : LadR w' lp side most v u n f :=
  ⟨hk.blk h1 h.b, h.r.same hk h2, h.hside, h.hmost, h.hn, h.price, h.sorted⟩

/-- The first k levels. -/
def lvs (f : Nat → Lvl) (k : Nat) : List Lvl := (List.range k).map f
theorem lvs_succ (f : Nat → Lvl) (k : Nat) : lvs f (k + 1) = lvs f k ++ [f k] := by simp [lvs, List.range_succ]
theorem lvs_len (f : Nat → Lvl) (k : Nat) : (lvs f k).length = k := by simp [lvs]
theorem lvs_prefix (f : Nat → Lvl) {k n : Nat} (h : k ≤ n) : lvs f k <+: lvs f n := by
  obtain ⟨d, rfl⟩ := Nat.exists_eq_add_of_le h
  induction d with
  | zero => exact List.prefix_refl _
  | succ d ih => exact (ih (by omega)).trans ⟨[f (k + d)], by rw [← lvs_succ]; rfl⟩

set_option maxHeartbeats 1000000 in
theorem lEach1_in (l b1 lp : Nat) (side most : Int) (v : Value) (u : Nat → Nat) (n : Nat) (f : Nat → Lvl) (J Jx : List Lvl → World → Prop) (S : List Nat) (hS : ∀ x, x = b1 ∨ x = lp ∨ v.ownBlock = some x → x ∈ S)
    (W : World) (hJ : OwnFrom W.heap.size J)
    (hY : ∀ pre x W1, J pre W1 → pre ++ [x] <+: lvs f n → YieldAt Fence.wide 0 Try.prog l #[lvV x] W1 fun e W' => KeepsFrom W.heap.size W1 W' ∧
      ((e = .returned (.bool true) ∧ J (pre ++ [x]) W' ∧ Same S W1 W') ∨ (e = .returned (.bool false) ∧ Jx (pre ++ [x]) W')))
    (h1 : Blk W b1 133 #[.pointer (some ⟨lp, 0, none⟩)]) (h : LadR W lp side most v u n f) (h0 : J [] W) :
    CallsIn Fence.wide 1 Try.prog 142 #[.func (.yield l) #[] #[], .pointer (some ⟨b1, 0, none⟩)] W fun e W' => (∃ v, e = .returned v) ∧
      (J (lvs f n) W' ∨ (∃ pre, pre <+: lvs f n ∧ Jx pre W')) := by
  have c1 := h1.cell
  have c2 := h.b.cell
  obtain ⟨A, cap, rfl⟩ := h.form
  have hn : (n : Int) ≤ 200 := by have := h.hn; have := h.hmost; omega
  have hF : ∀ k, Fence.wide.fn k := fun _ => trivial
  refine callsIn_of_wp Try.func142 rfl trivial ?_ rfl
  simp only [Try.ntmps142, List.size_toArray, List.length_cons, List.length_nil, Nat.reduceAdd, Nat.reduceSub, Array.replicate_succ, Array.replicate_zero, List.push_toArray, List.append_toArray, List.nil_append, List.cons_append]
  gi_wp2
  gi_loopw [12] (fun p wr => ∃ k : Nat, k ≤ n ∧ p = .int .i64 k ∧ LadR wr lp side most (.slice A n cap) u n f ∧ Blk wr b1 133 #[.pointer (some ⟨lp, 0, none⟩)] ∧ J (lvs f k) wr) (fun p _ => n - (intOf p).toNat)
  case atStart => exact ⟨0, by omega, rfl, h, h1, h0⟩
  case round =>
    obtain ⟨k, hk, rfl, r, q1, hJs⟩ := hrel
    clear c1 c2 h
    by_cases hlt : k < n
    · have i1 : (k : Int) < (n : Int) := by omega
      have i0 : (0 : Int) ≤ (k : Int) := by omega
      obtain ⟨lb, cap', cur, e, hnc, B, m0, m1, m2, m3⟩ := r.lv hlt
      injection e with e1 _ e2
      subst e1; subst e2
      have HR := Lib.hid r
      clear r
      have hpx : lvs f k ++ [f k] <+: lvs f n := by rw [← lvs_succ]; exact lvs_prefix f hlt
      obtain ⟨fn, tmps, assign, body, hy, hR⟩ := hY (lvs f k) (f k) (wr.alloc (.cells #[.int .i64 (f k).price, .int .i64 (f k).qty, .int .i64 (f k).orders, .int .i64 (f k).queue] 159)) (hJ.alloc _ hJs) hpx
      simp only [lvV] at hy
      gi_wp2
      refine hR.mono ?_
      rintro e W3 ⟨_, (⟨rfl, hJ3, hk3⟩ | ⟨rfl, hJx3⟩)⟩
      · have r3 := (HR.out.fr (S := []) (by with_reducible repeat (first | exact Fr.refl _ _ | assumption | apply Fr.drew | apply Fr.drewN | apply Fr.alloc | (apply Fr.step; assumption; (intro _ h; (first | exact h | (focus (simp_all; done))))) | (apply Fr.setIn; (first | exact List.mem_cons_self | exact List.mem_cons_of_mem _ List.mem_cons_self | exact List.mem_cons_of_mem _ (List.mem_cons_of_mem _ List.mem_cons_self) | exact List.mem_cons_of_mem _ (List.mem_cons_of_mem _ (List.mem_cons_of_mem _ List.mem_cons_self)))) | (apply Fr.setNew; (first | omega | (simp; omega))))) (by simp) (by simp) : LadR (wr.alloc (.cells #[.int .i64 (f k).price, .int .i64 (f k).qty, .int .i64 (f k).orders, .int .i64 (f k).queue] 159)) lp side most _ u n f).same hk3 (hS _ (.inr (.inl rfl))) (fun g hg => hS _ (.inr (.inr hg)))
        have p1 := hk3.blk (hS _ (.inl rfl)) (q1.alloc _)
        gi_wp2
        go_roundw
        case rel => exact ⟨k + 1, by omega, by simp, r3, p1, by rw [lvs_succ]; exact hJ3⟩
        case measure => simp [intOf]; omega
      · gi_wp2
        refine bodyPost_ret (results_none rfl _ _ _) rfl ?_
        exact ⟨⟨_, rfl⟩, .inr ⟨_, hpx, hJx3⟩⟩
    · obtain rfl : k = n := by omega
      gi_wp2
      go_end0
      exact ⟨⟨_, rfl⟩, .inl hJs⟩

theorem lEach_own (b1 lp : Nat) (side most : Int) (v : Value) (u : Nat → Nat) (n : Nat) (f : Nat → Lvl) (S : List Nat) (hS : ∀ x, x = b1 ∨ x = lp ∨ v.ownBlock = some x → x ∈ S) (W0 : World) (h1 : Blk W0 b1 133 #[.pointer (some ⟨lp, 0, none⟩)]) (h : LadR W0 lp side most v u n f) :
    SeqOwn Try.prog 142 #[.pointer (some ⟨b1, 0, none⟩)] (fun x : Lvl => #[lvV x]) S (lvs f n) W0 := by
  intro l J Jx W hb hJ hJx hY h0
  refine callsIn_wide.1 (lEach1_in l b1 lp side most v u n f J Jx S hS W hJ hY (h1.below hb h1.lt) ⟨Blk.below h.b hb h.b.lt, ?_, h.hside, h.hmost, h.hn, h.price, h.sorted⟩ h0)
  rcases h.r with h | ⟨lb, cap, cur, rfl, a1, B, a2, a3⟩
  · exact .inl h
  · exact .inr ⟨lb, cap, cur, rfl, a1, B.below hb B.lt, a2, a3⟩
end Go.Proofs.Ytkimldeagndgjaa

/- The ladder: Worth. -/
namespace Go.Proofs.Ytkimldeagndgjaa
set_option linter.unusedVariables false
set_option linter.unusedSimpArgs false
open Go.RowKit Go.Shelf
attribute [local go_sem] Oper.semAt_some

/-- What Worth tells. -/
def worthL (side lim : Int) : List Lvl → Int → Int
  | [], s => s
  | x :: r, s => if keyI side lim < keyI side x.price then s else if 4611686018427387904 < s + x.qty then 4611686018427387904 else worthL side lim r (s + x.qty)
def sumQ (l : List Lvl) : Int := (l.map (·.qty)).sum
theorem sumQ_snoc (l : List Lvl) (x : Lvl) : sumQ (l ++ [x]) = sumQ l + x.qty := by simp [sumQ]

theorem own_ex {α β : Type} {B : Nat} {I : α → β → World → Prop} (h : ∀ a, OwnFrom B (I a)) : OwnFrom B (fun s W => ∃ a, I a s W) := fun s A C row ⟨a, ha⟩ hg hr => ⟨a, h a s A C row ha hg hr⟩
theorem own_pure {β : Type} {B : Nat} (p : β → Prop) : OwnFrom B (fun (s : β) _ => p s) := fun _ _ _ _ hs _ _ => hs
theorem own_imp {β : Type} {B : Nat} {p : β → Prop} {Q : β → World → Prop} (h : OwnFrom B Q) : OwnFrom B (fun s W => p s → Q s W) := fun s A C r hs hg hr hp => h s A C r (hs hp) hg hr
theorem keeps_fr {S : List Nat} {W W' : World} {B : Nat} (h : Fr S W W') (hS : ∀ x ∈ S, x < B) : KeepsFrom B W W' :=
  ⟨h.size, fun k o hB hk _ => (h.block k (Array.getElem?_eq_some_iff.1 hk).1 (fun hx => by have := hS k hx; omega)).trans hk⟩
theorem fr_fresh {S : List Nat} {a b c : World} (k : Fr S b c) (hS : ∀ x ∈ S, a.heap.size ≤ x) (h : Fr [] a b) : Fr [] a c :=
  ⟨k.os.trans h.os, k.tape.trans h.tape, k.output.trans h.output, Nat.le_trans h.size k.size, fun i hi hn => (k.block i (Nat.lt_of_lt_of_le hi h.size) (fun hx => by have := hS i hx; omega)).trans (h.block i hi hn)⟩
theorem same_alloc {T : List Nat} {W : World} (hT : ∀ t ∈ T, t < W.heap.size) (o : Obj) : Same T W (W.alloc o) := ⟨by simp, fun k hk => Below.heap_alloc _ _ _ (hT k hk)⟩
theorem keeps_alloc {B : Nat} {W : World} (o : Obj) : KeepsFrom B W (W.alloc o) := keeps_fr (S := []) (Fr.alloc (Fr.refl _ _) o) (by simp)
theorem lvs_mem {f : Nat → Lvl} {n : Nat} {pre : List Lvl} {x : Lvl} (h : pre ++ [x] <+: lvs f n) : ∃ k, k < n ∧ x = f k := by
  have hm : x ∈ lvs f n := h.subset (by simp)
  simp only [lvs, List.mem_map, List.mem_range] at hm
  obtain ⟨k, hk, e⟩ := hm
  exact ⟨k, hk, e.symm⟩

theorem worth_nil (w : World) (lim : Int) :
    Calls Try.prog 108 #[.pointer none, .int .i64 lim] w fun e w' => e = .returned (.int .i64 0) ∧ Fr [] w w' := by
  refine callsIn_wide.1 (callsIn_of_wp_marks (n := 0) Try.func108 rfl trivial ?_ rfl)
  simp only [Try.ntmps108, List.size_toArray, List.length_cons, List.length_nil, Nat.reduceAdd, Nat.reduceSub, Array.replicate_succ, Array.replicate_zero, List.push_toArray, List.append_toArray, List.nil_append, List.cons_append]
  refine wpIn_wide.2 ?_
  go_wp2_with fail
  go_step3
  go_wp2_with fail
  go_step3
  go_wp2_with fail
  refine (lEach_mk _ (.pointer none) ⟨none, rfl⟩).mono ?_
  rintro e w2 ⟨rfl, hW⟩
  have F2 : Fr [] w w2 := Fr.eqv hW.symm (by with_reducible repeat (first | exact Fr.refl _ _ | assumption | apply Fr.drew | apply Fr.drewN | apply Fr.alloc | (apply Fr.step; assumption; (intro _ h; (first | exact h | (focus (simp_all; done))))) | (apply Fr.setIn; (first | exact List.mem_cons_self | exact List.mem_cons_of_mem _ List.mem_cons_self | exact List.mem_cons_of_mem _ (List.mem_cons_of_mem _ List.mem_cons_self) | exact List.mem_cons_of_mem _ (List.mem_cons_of_mem _ (List.mem_cons_of_mem _ List.mem_cons_self)))) | (apply Fr.setNew; (first | omega | (simp; omega)))))
  have B1 := Blk.box0 hW.symm
  have B4 := Blk.eqv hW.symm ((Blk.new ((w.alloc (.cells #[.pointer none] 133)).alloc (.cells #[.int .i64 lim] 2)) 2 #[.int .i64 0]).alloc _)
  simp only [World.size_alloc] at B1 B4
  clear hW
  go_wp2_with fail
  refine wp_name_act (fun A hA => ?_)
  have hA1 : A.eval (.tmp 9) = .func (.func 142) #[] #[.pointer (some ⟨w.heap.size + 1 + 1 + 1, 0, none⟩)] := by rw [hA]; rfl
  have l1 := F2.size
  have lb1 := B1.lt
  refine (wpIn_wide (n := 0)).1 (range_outer hA1 (enters_of Try.func142 (by kernel_rfl) rfl) (lEach_own_nil w2 _ [] B1) (Below.refl _ _) (fun _ => rfl) (by simp)
    (fun _ W => Fr [] w W ∧ Blk W (w.heap.size + 1 + 1) 2 #[.int .i64 0]) (fun _ _ _ => False) (fun _ _ _ _ => False) (OwnFrom.and (ownFrom_fr (by omega)) ((own_blk _ _ _).from _)) (fun _ _ _ _ _ h => h.elim) (fun _ _ _ _ _ _ h => h.elim) ⟨F2, B4⟩
    ?assign ?body ?done ?stop)
  case assign => intro l pre x W K _ h; exact absurd h.length_le (by simp)
  case body => intro l pre x a' W _ _ h; exact h.elim
  case stop => intro D c pre W _ _ h; exact h.elim
  case done =>
    rintro D W hD ⟨F3, B5⟩ hK
    subst hA
    clear hA1 F2 B1 B4
    have HK := Lib.hid hK
    clear hK
    have c5 := B5.cell
    have f5 := B5.frozen
    have l5 := B5.lt
    go_wp2_with fail
    have B6 : Blk (W.setCell ⟨w.heap.size + 1 + 1, 0, none⟩ (.int .i64 0)) (w.heap.size + 1 + 1) 2 #[.int .i64 0] := B5.same 0 _
    have F6 : Fr [] w (W.setCell ⟨w.heap.size + 1 + 1, 0, none⟩ (.int .i64 0)) := Fr.setNew (by omega) F3
    have HK6 := def_fr (Fr.setIn (o := 0) (u := .int .i64 0) List.mem_cons_self (Fr.refl [w.heap.size + 1 + 1] W)) HK.out (by intro h; rcases List.mem_singleton.1 h with rfl; omega)
    have c6 := (blk_put (o' := .deferred none) B6 HK6 rfl).cell 0
    refine ⟨by simp, .inl ⟨_, _, rfl, run_takeDeferred HK6, ?_⟩⟩
    refine ⟨.int .i64 0, ?_, rfl, (fr_put F6 (by omega))⟩
    simp [results, Try.f108, go_sem, c6]

set_option maxHeartbeats 1000000 in
theorem worth_any (w : World) (lp : Nat) (side most : Int) (v : Value) (u : Nat → Nat) (n : Nat) (f : Nat → Lvl) (h : LadI w lp side most v u n f) (lim : Int) (hl : In63 lim) :
    Calls Try.prog 108 #[.pointer (some ⟨lp, 0, none⟩), .int .i64 lim] w fun e w' => e = .returned (.int .i64 (worthL side lim (lvs f n) 0)) ∧ Fr [] w w' := by
  have HX := Lib.hid h
  have hlp := h.r.b.lt
  have hvl := Lib.hid h.lts
  clear h
  refine callsIn_wide.1 (callsIn_of_wp_marks (n := 0) Try.func108 rfl trivial ?_ rfl)
  simp only [Try.ntmps108, List.size_toArray, List.length_cons, List.length_nil, Nat.reduceAdd, Nat.reduceSub, Array.replicate_succ, Array.replicate_zero, List.push_toArray, List.append_toArray, List.nil_append, List.cons_append]
  refine wpIn_wide.2 ?_
  go_wp2_with fail
  go_step3
  go_wp2_with fail
  go_step3
  go_wp2_with fail
  refine (lEach_mk _ (.pointer (some ⟨lp, 0, none⟩)) ⟨_, rfl⟩).mono ?_
  rintro e w2 ⟨rfl, hW⟩
  have F2 : Fr [] w w2 := Fr.eqv hW.symm (by with_reducible repeat (first | exact Fr.refl _ _ | assumption | apply Fr.drew | apply Fr.drewN | apply Fr.alloc | (apply Fr.step; assumption; (intro _ h; (first | exact h | (focus (simp_all; done))))) | (apply Fr.setIn; (first | exact List.mem_cons_self | exact List.mem_cons_of_mem _ List.mem_cons_self | exact List.mem_cons_of_mem _ (List.mem_cons_of_mem _ List.mem_cons_self) | exact List.mem_cons_of_mem _ (List.mem_cons_of_mem _ (List.mem_cons_of_mem _ List.mem_cons_self)))) | (apply Fr.setNew; (first | omega | (simp; omega)))))
  have B1 := Blk.box0 hW.symm
  have B2 := Blk.eqv hW.symm ((((Blk.new w 133 #[.pointer (some ⟨lp, 0, none⟩)]).alloc (.cells #[.int .i64 lim] 2)).alloc (.cells #[.int .i64 0] 2)).alloc _)
  have B3 := Blk.eqv hW.symm (((Blk.new (w.alloc (.cells #[.pointer (some ⟨lp, 0, none⟩)] 133)) 2 #[.int .i64 lim]).alloc (.cells #[.int .i64 0] 2)).alloc _)
  have B4 := Blk.eqv hW.symm ((Blk.new ((w.alloc (.cells #[.pointer (some ⟨lp, 0, none⟩)] 133)).alloc (.cells #[.int .i64 lim] 2)) 2 #[.int .i64 0]).alloc _)
  simp only [World.size_alloc] at B1 B2 B3 B4
  clear hW
  go_wp2_with fail
  refine wp_name_act (fun A hA => ?_)
  have hA1 : A.eval (.tmp 9) = .func (.func 142) #[] #[.pointer (some ⟨w.heap.size + 1 + 1 + 1, 0, none⟩)] := by rw [hA]; rfl
  have l1 := F2.size
  have lb1 := B1.lt
  have hTT : ∀ t ∈ (w.heap.size + 1 + 1 + 1) :: lp :: v.ownBlock.toList, t < w2.heap.size := by
    intro t ht
    rcases List.mem_cons.1 ht with rfl | ht
    · omega
    rcases List.mem_cons.1 ht with rfl | ht
    · omega
    have := hvl.out t (by simpa using ht)
    omega
  refine (wpIn_wide (n := 0)).1 (range_outer hA1 (enters_of Try.func142 (by kernel_rfl) rfl)
    (lEach_own _ lp side most v u n f ((w.heap.size + 1 + 1 + 1) :: lp :: v.ownBlock.toList) (by intro x hx; rcases hx with rfl | rfl | hx <;> simp [*]) w2 B1 (HX.out.r.fr F2 (by simp) (by simp))) (Below.refl _ _) (fun _ => rfl)
    hTT
    (fun pre W => ((∀ rest, worthL side lim (pre ++ rest) 0 = worthL side lim rest (sumQ pre)) ∧ 0 ≤ sumQ pre ∧ sumQ pre ≤ 4611686018427387904) ∧ Fr [w.heap.size + 1 + 1] w2 W ∧ Blk W (w.heap.size + 1 + 1) 2 #[.int .i64 (sumQ pre)])
    (fun c pre W => ∃ s, ((c = .ret ∨ c = .exit 0) ∧ ∀ rest, worthL side lim (pre ++ rest) 0 = s) ∧ Fr [w.heap.size + 1 + 1] w2 W ∧ Blk W (w.heap.size + 1 + 1) 2 #[.int .i64 s])
    (fun pre x a' W => ∃ X, (w2.heap.size ≤ X ∧ a' = ⟨(A.tmps.setIfInBounds 10 (lvV x)).setIfInBounds 5 (.pointer (some ⟨X, 0, none⟩)), []⟩) ∧ ((∀ rest, worthL side lim (pre ++ rest) 0 = worthL side lim rest (sumQ pre)) ∧ 0 ≤ sumQ pre ∧ sumQ pre ≤ 4611686018427387904) ∧ Fr [w.heap.size + 1 + 1] w2 W ∧ Blk W (w.heap.size + 1 + 1) 2 #[.int .i64 (sumQ pre)] ∧ Blk W X 159 (lvL x).toArray)
    ?hI ?hIx ?hIa ⟨⟨fun rest => by simp [sumQ], by simp [sumQ], by simp [sumQ]⟩, Fr.refl _ _, by simpa [sumQ] using B4⟩
    ?assign ?body ?done ?stop)
  case hI => exact OwnFrom.and (own_pure _) (OwnFrom.and (ownFrom_fr (Nat.le_refl _)) ((own_blk _ _ (fun pre : List Lvl => #[.int .i64 (sumQ pre)])).from _))
  case hIx => exact fun c => own_ex fun s => OwnFrom.and (own_pure _) (OwnFrom.and (ownFrom_fr (Nat.le_refl _)) ((own_blk _ _ _).from _))
  case hIa => exact fun pre x => own_ex fun X => OwnFrom.and (own_pure _) (OwnFrom.and (own_pure _) (OwnFrom.and (ownFrom_fr (Nat.le_refl _)) (OwnFrom.and ((own_blk _ _ _).from _) ((own_blk _ _ _).from _))))
  case assign =>
    rintro l pre x W K ⟨hinv, F3, G4⟩ hpx hK
    subst hA
    simp only [List.setIfInBounds_toArray, List.set_cons_zero, List.set_cons_succ] at hK
    have HI := Lib.hid hinv
    have s3 := F3.size
    have l4 := G4.lt
    simp only [lvV]
    clear hinv B1 B2 B3 B4 hA1
    gi_wp2
    exact hK _ _ (keeps_alloc _) (same_alloc (fun t ht => by have := hTT t ht; omega) _) ⟨W.heap.size, ⟨s3, rfl⟩, HI.out, F3.alloc _, G4.alloc _, Blk.new _ _ _⟩
  case body =>
    rintro l pre x a' W hll _ ⟨X, ⟨hX, rfl⟩, hinv, F3, G4, GX⟩ hpx
    subst hA
    simp only [List.setIfInBounds_toArray, List.set_cons_zero, List.set_cons_succ]
    obtain ⟨k, hk, rfl⟩ := lvs_mem hpx
    have G2 := Blk.via F3 (by simp; omega) B2
    have G3 := Blk.via F3 (by simp) B3
    have HI := Lib.hid hinv
    have HQ := Lib.hid (HX.out.qty k hk)
    have c2 := G2.cell
    have c3 := G3.cell
    have c4 := G4.cell
    have f4 := G4.frozen
    have l4 := G4.lt
    have x0 : W.cell? ⟨X, 0, none⟩ = some (.int .i64 (f k).price) := (GX.cell 0).trans rfl
    have x1 : W.cell? ⟨X, 1, none⟩ = some (.int .i64 (f k).qty) := (GX.cell 1).trans rfl
    have BLW : ∀ W', Fr [w.heap.size + 1 + 1] W W' → BlkL W' lp side most v u := fun W' F => Blk.via ((F2.mono (S' := [w.heap.size + 1 + 1]) (by simp)).trans (F3.trans F)) (by simp; omega) HX.out.r.b
    have HK1 := Lib.hid (fun W' (F : Fr [w.heap.size + 1 + 1] W W') => key_any W' lp side most v u (BLW W' F) (f k).price (HX.out.r.in63 k hk))
    have HK2 := Lib.hid (fun W' (F : Fr [w.heap.size + 1 + 1] W W') => key_any W' lp side most v u (BLW W' F) lim hl)
    clear hinv B1 B2 B3 B4 hA1 BLW
    gi_wp2
    refine soft_round (by kernel_rfl) (fun ⟨_, _, h⟩ => h) (by kernel_rfl) (by kernel_rfl) ?_; (repeat (refine wpQuiet_step (fun K hK => ?_); (first | ((fail); go_simp; refine hK _ ?_; clear hK K) | (apply soft_do; (rfl); (focus (intro W hC; (have c2 := (Blk.via hC (by simp) G2).cell; have c3 := (Blk.via hC (by simp) G3).cell; have x0 := ((Blk.via hC (by simp) GX).cell 0).trans (show (lvL (f k)).toArray[0]? = some (.int .i64 (f k).price) from rfl)); go_simp; (first | (first | ((with_reducible refine (HK1.out _ (hC.mono (by simp))).mono ?_); rintro e w' ⟨rfl, rfl⟩; exact ⟨rfl, hC⟩) | ((with_reducible refine (HK2.out _ (hC.mono (by simp))).mono ?_); rintro e w' ⟨rfl, rfl⟩; exact ⟨rfl, hC⟩)) | done | rfl | exact ⟨rfl, rfl⟩))); (go_simp; refine hK _ ?_; clear hK K)) | (apply soft_skip; (rfl); (go_simp; refine hK _ ?_; clear hK K))))); refine wpQuiet_nil ?_
    intro W4 F4
    have D4 := Blk.via F4 (by simp) G4
    have DX := Blk.via F4 (by simp) GX
    have F5 := F3.trans (F4.mono (S' := [w.heap.size + 1 + 1]) (by simp))
    have d4 := D4.cell
    have g4 := D4.frozen
    have y1 : W4.cell? ⟨X, 1, none⟩ = some (.int .i64 (f k).qty) := (DX.cell 1).trans rfl
    have m4 := D4.lt
    have hKF : KeepsFrom w2.heap.size W W4 := keeps_fr F4 (by simp)
    have hKS : ∀ v, KeepsFrom w2.heap.size W (W4.setCell ⟨w.heap.size + 1 + 1, 0, none⟩ v) := fun v => hKF.trans (keeps_fr (Fr.setIn (S := [w.heap.size + 1 + 1]) List.mem_cons_self (Fr.refl _ _)) (by simp; omega))
    have HKS := Lib.hid hKS
    clear c2 c3 c4 f4 l4 x0 x1 G2 G3 G4 GX hKS
    have hFf : ∀ k, Fence.wide.fn k := fun _ => trivial
    have hFd : Fence.wide.depth = none := rfl
    have i1 := HI.out.2.1
    have i2 := HI.out.2.2
    have q1 := HQ.out.1
    have q2 := HQ.out.2
    by_cases hb : keyI side lim < keyI side (f k).price
    · have hcut : ∀ rest, worthL side lim (pre ++ [f k] ++ rest) 0 = sumQ pre := fun rest => by rw [List.append_assoc, HI.out.1]; show (if _ then _ else _) = _; rw [if_pos hb]
      have HC := Lib.hid hcut
      clear hcut
      gi_wp2
      exact ⟨hKF, _, ⟨.inr rfl, HC.out⟩, F5, D4⟩
    · have hgo : ∀ rest, worthL side lim (pre ++ [f k] ++ rest) 0 = if 4611686018427387904 < sumQ pre + (f k).qty then 4611686018427387904 else worthL side lim rest (sumQ pre + (f k).qty) := fun rest => by
        rw [List.append_assoc, HI.out.1]; show (if _ then _ else _) = _; rw [if_neg hb]; rfl
      have HG := Lib.hid hgo
      clear hgo
      by_cases hs : sumQ pre + (f k).qty ≤ 9223372036854775807
      · have HA := Lib.hid (fun w => add_in w (sumQ pre) (f k).qty ⟨by omega, by omega⟩ ⟨by omega, by omega⟩ ⟨by omega, hs⟩)
        gi_wp2
        refine (CallsIn.inRound l (callsIn_wide.2 (HA.out _))).mono ?_
        rintro e w' ⟨rfl, rfl⟩
        by_cases hs2 : 4611686018427387904 < sumQ pre + (f k).qty
        · gi_wp2
          exact ⟨HKS.out _, _, ⟨.inl rfl, fun rest => by rw [HG.out, if_pos hs2]⟩, Fr.setIn (by simp) F5, (D4.same 0 _).cast rfl⟩
        · gi_wp2
          refine ⟨HKS.out _, ?_, ⟨fun rest => by rw [HG.out, if_neg (by omega), sumQ_snoc], by rw [sumQ_snoc]; omega, by rw [sumQ_snoc]; omega⟩, Fr.setIn (by simp) F5, (D4.same 0 _).cast (by rw [sumQ_snoc]; rfl)⟩
          have FT : Fr [w.heap.size + 1 + 1] W (W4.setCell ⟨w.heap.size + 1 + 1, 0, none⟩ (.int .i64 (sumQ pre + (f k).qty))) := Fr.setIn List.mem_cons_self (F4.mono (by simp))
          refine Same.of_fr FT (fun t ht => ?_) (fun t ht => by have := hTT t ht; have := F3.size; omega)
          rcases List.mem_cons.1 ht with rfl | ht
          · simp
          rcases List.mem_cons.1 ht with rfl | ht
          · simp; omega
          have := hvl.out t (by simpa using ht)
          simp; omega
      · have HA := Lib.hid (fun w => add_out w (sumQ pre) (f k).qty ⟨by omega, by omega⟩ ⟨by omega, by omega⟩ (fun c => hs c.2))
        gi_wp2
        refine (CallsIn.inRound l (callsIn_wide.2 (HA.out _))).mono ?_
        rintro e w' ⟨rfl, rfl⟩
        gi_wp2
        exact ⟨HKS.out _, _, ⟨.inl rfl, fun rest => by rw [HG.out, if_pos (by omega)]⟩, Fr.setIn (by simp) F5, (D4.same 0 _).cast rfl⟩
  case done =>
    rintro D W hD ⟨hinv, F3, B5⟩ hK
    subst hA
    have hres : worthL side lim (lvs f n) 0 = sumQ (lvs f n) := by have := hinv.1 []; simpa [worthL] using this
    have HR := Lib.hid hres
    clear hA1 B1 B2 B3 B4 hinv hres
    have HK := Lib.hid hK
    clear hK
    have c5 := B5.cell
    have f5 := B5.frozen
    have l5 := B5.lt
    go_wp2_with fail
    have B6 : Blk (W.setCell ⟨w.heap.size + 1 + 1, 0, none⟩ (.int .i64 (sumQ (lvs f n)))) (w.heap.size + 1 + 1) 2 #[.int .i64 (sumQ (lvs f n))] := B5.same 0 _
    have F6 : Fr [] w (W.setCell ⟨w.heap.size + 1 + 1, 0, none⟩ (.int .i64 (sumQ (lvs f n)))) := Fr.setNew (by omega) (fr_fresh F3 (by simp; omega) F2)
    have HK6 := def_fr (Fr.setIn (o := 0) (u := .int .i64 (sumQ (lvs f n))) List.mem_cons_self (Fr.refl [w.heap.size + 1 + 1] W)) HK.out (by intro h; rcases List.mem_singleton.1 h with rfl; omega)
    have c6 := (blk_put (o' := .deferred none) B6 HK6 rfl).cell 0
    refine ⟨by simp, .inl ⟨_, _, rfl, run_takeDeferred HK6, ?_⟩⟩
    refine ⟨.int .i64 (sumQ (lvs f n)), ?_, by rw [HR.out], (fr_put F6 (by omega))⟩
    simp [results, Try.f108, go_sem, c6]
  case stop =>
    rintro D c pre W hD hpre ⟨s, ⟨hc, hcut⟩, F3, B5⟩ hK
    refine wpIn_wide.2 ?_
    subst hA
    have hres : worthL side lim (lvs f n) 0 = s := by
      obtain ⟨r, hr⟩ := hpre
      rw [← hr]; exact hcut r
    have HR := Lib.hid hres
    clear hA1 B1 B2 B3 B4 hcut hres
    have HK := Lib.hid hK
    clear hK
    have c5 := B5.cell
    have f5 := B5.frozen
    have l5 := B5.lt
    rcases hc with rfl | rfl
    · go_wp2_with fail
      have c6 := (blk_put (o' := .deferred none) B5 HK.out rfl).cell 0
      refine ⟨by simp, .inl ⟨_, _, rfl, run_takeDeferred HK.out, ?_⟩⟩
      refine ⟨.int .i64 s, ?_, by rw [HR.out], (fr_put (fr_fresh F3 (by simp; omega) F2) (by omega))⟩
      simp [results, Try.f108, go_sem, c6]
    · go_wp2_with fail
      have B6 : Blk (W.setCell ⟨w.heap.size + 1 + 1, 0, none⟩ (.int .i64 s)) (w.heap.size + 1 + 1) 2 #[.int .i64 s] := B5.same 0 _
      have F6 : Fr [] w (W.setCell ⟨w.heap.size + 1 + 1, 0, none⟩ (.int .i64 s)) := Fr.setNew (by omega) (fr_fresh F3 (by simp; omega) F2)
      have HK6 := def_fr (Fr.setIn (o := 0) (u := .int .i64 s) List.mem_cons_self (Fr.refl [w.heap.size + 1 + 1] W)) HK.out (by intro h; rcases List.mem_singleton.1 h with rfl; omega)
      have c6 := (blk_put (o' := .deferred none) B6 HK6 rfl).cell 0
      refine ⟨by simp, .inl ⟨_, _, rfl, run_takeDeferred HK6, ?_⟩⟩
      refine ⟨.int .i64 s, ?_, by rw [HR.out], (fr_put F6 (by omega))⟩
      simp [results, Try.f108, go_sem, c6]
end Go.Proofs.Ytkimldeagndgjaa

/- The queue's iterator as what an iterator owes (SeqOwn), walked. -/
namespace Go.Proofs.Ytkimldeagndgjaa
set_option linter.unusedVariables false
set_option linter.unusedSimpArgs false
open Go.RowKit Go.Shelf
attribute [local go_sem] Oper.semAt_some

set_option maxHeartbeats 1000000 in
theorem each1_own (B : Nat) (T : List Nat) (l b1 b2 bq bn be N K : Nat) (hT : ∀ x ∈ [b1, b2, bq, bn, be], x ∈ T) (L : Nat → List Nat) (i : Nat) (hi : i < K) (J Jx : List Nat → World → Prop)
    (hY : ∀ pre x W, J pre W → pre ++ [x] <+: L i → YieldAt Fence.wide 0 Try.prog l #[.int .i64 ((x : Nat) : Int)] W fun e W' => KeepsFrom B W W' ∧
      ((e = .returned (.bool true) ∧ J (pre ++ [x]) W' ∧ Same T W W') ∨ (e = .returned (.bool false) ∧ Jx (pre ++ [x]) W')))
    (W : World) (h1 : Blk W b1 134 #[.pointer (some ⟨bq, 0, none⟩)]) (h2 : Blk W b2 3 #[.int .i64 i]) (nd : Nat → Link) (en : Nat → Ends) (hr : RepQ W bq bn be N K nd en) (hv : QInv N K L nd en) (h0 : J [] W) :
    CallsIn Fence.wide 1 Try.prog 143 #[.func (.yield l) #[] #[], .pointer (some ⟨b1, 0, none⟩), .pointer (some ⟨b2, 0, none⟩)] W fun e W' => (∃ v, e = .returned v) ∧
      (J (L i) W' ∨ (∃ pre, pre <+: L i ∧ Jx pre W')) := by
  have c1 := h1.cell
  have c2 := h2.cell
  have e1 := hr.e.at0 hi (show 0 < 3 by omega)
  simp only [endsC, hv.een i hi] at e1
  have hF : ∀ k, Fence.wide.fn k := fun _ => trivial
  refine callsIn_of_wp Try.func143 rfl trivial ?_ rfl
  simp only [Try.ntmps143, List.size_toArray, List.length_cons, List.length_nil, Nat.reduceAdd, Nat.reduceSub, Array.replicate_succ, Array.replicate_zero, List.push_toArray, List.append_toArray, List.nil_append, List.cons_append]
  gi_wp2_with (gi_at_call 135; refine (callsIn_wide.2 (queue_in _ bq bn be N K hr.q hr.K2 i hi)).mono ?_; rintro e w' ⟨rfl, rfl⟩)
  gi_loopw [5] (fun p wr => ∃ pre rest : List Nat, p = .int .i64 (ptr rest.head?) ∧ L i = pre ++ rest ∧ RepQ wr bq bn be N K nd en ∧ Blk wr b1 134 #[.pointer (some ⟨bq, 0, none⟩)] ∧ Blk wr b2 3 #[.int .i64 i] ∧ J pre wr) (fun p _ => leftOf (L i) p)
  case atStart => exact ⟨[], L i, rfl, rfl, hr, h1, h2, h0⟩
  case round =>
    obtain ⟨pre, rest, rfl, hx, r, k1, k2, hJs⟩ := hrel
    have HX := Lib.hid hx
    clear hx c1 c2 e1
    cases rest with
    | nil =>
      have hp : ptr ([] : List Nat).head? = -1 := rfl
      rw [hp]
      clear hp
      gi_wp2
      go_end0
      exact ⟨⟨_, rfl⟩, .inl (by rw [HX.out, List.append_nil]; exact hJs)⟩
    | cons x rest =>
      obtain ⟨hxN, hlx⟩ := hv.lnk i hi pre x rest HX.out
      have hp : ptr (x :: rest).head? = (x : Int) := rfl
      rw [hp]
      clear hp
      have hne : (((x : Nat) : Int) == -1) = false := by first | (simp; done) | (simp; omega)
      have hne2 : (((x : Nat) : Int) != -1) = true := by first | (simp; done) | (simp; omega)
      obtain ⟨fn, tmps, assign, body, hy, hR⟩ := hY pre x wr hJs ⟨rest, by rw [HX.out]; simp⟩
      gi_wp2
      refine hR.mono ?_
      rintro e W3 ⟨_, (⟨rfl, hJ3, hk3'⟩ | ⟨rfl, hJx3⟩)⟩
      · have hk3 : Same [b1, b2, bq, bn, be] wr W3 := ⟨hk3'.1, fun k hk => hk3'.2 k (hT k hk)⟩
        have r3 : RepQ W3 bq bn be N K nd en := ⟨hk3.blk (by simp) r.q, hk3.blk (by simp) r.n, hk3.blk (by simp) r.e, r.N1, r.N2, r.K1, r.K2⟩
        have q1 := hk3.blk (by simp) k1
        have q2 := hk3.blk (by simp) k2
        have d1 := q1.cell
        have d2 := r3.q.cell
        have d3 := r3.n.at hxN (show 1 < 3 by omega)
        simp only [linkC, hlx] at d3
        have hN2 := r.N2
        clear hne hne2 hk3'
        gi_wp2
        go_roundw
        case rel => exact ⟨pre ++ [x], rest, rfl, by rw [HX.out]; simp, r3, q1, q2, hJ3⟩
        case measure =>
          have hnd := hv.nodup i hi
          have i1 : (L i).idxOf x = pre.length := idxOf_split hnd HX.out
          have l1 : (L i).length = pre.length + 1 + rest.length := by rw [HX.out]; simp; omega
          have m1 : leftOf (L i) (.int .i64 (x : Int)) = rest.length + 1 := by
            simp only [leftOf]
            rw [if_neg (by omega), Int.toNat_natCast, i1]; omega
          rw [m1]
          cases rest with
          | nil => simp [leftOf, ptr]
          | cons y rest =>
            have i2 : (L i).idxOf y = pre.length + 1 := by
              have := idxOf_split (A := pre ++ [x]) (B := rest) (x := y) hnd (by rw [HX.out]; simp)
              simpa using this
            have hp : ptr (y :: rest).head? = (y : Int) := rfl
            rw [hp]
            simp only [leftOf]
            rw [if_neg (by omega), Int.toNat_natCast, i2]
            simp at l1 ⊢
            omega
      · gi_wp2
        refine bodyPost_ret (results_none rfl _ _ _) rfl ?_
        exact ⟨⟨_, rfl⟩, .inr ⟨pre ++ [x], ⟨rest, by rw [HX.out]; simp⟩, hJx3⟩⟩

theorem each_own (b1 b2 bq bn be N K : Nat) (T : List Nat) (hT : ∀ x ∈ [b1, b2, bq, bn, be], x ∈ T) (L : Nat → List Nat) (i : Nat) (hi : i < K) (W0 : World) (h1 : Blk W0 b1 134 #[.pointer (some ⟨bq, 0, none⟩)]) (h2 : Blk W0 b2 3 #[.int .i64 i]) (hA : AbsQ W0 bq bn be N K L) :
    SeqOwn Try.prog 143 #[.pointer (some ⟨b1, 0, none⟩), .pointer (some ⟨b2, 0, none⟩)] (fun x : Nat => #[.int .i64 x]) T (L i) W0 := by
  obtain ⟨nd, en, r, v⟩ := hA
  intro l J Jx W hb hJ hJx hY h0
  exact callsIn_wide.1 (each1_own W.heap.size T l b1 b2 bq bn be N K hT L i hi J Jx hY W (h1.below hb h1.lt) (h2.below hb h2.lt) nd en
    ⟨Blk.below r.q hb r.q.lt, r.n.below hb r.n.lt, r.e.below hb r.e.lt, r.N1, r.N2, r.K1, r.K2⟩ v h0)
end Go.Proofs.Ytkimldeagndgjaa

/- Ranges over iterators that keep blocks of their own while they run: what a caller's round may turn is told by name (M: the blocks that the rounds themselves have made). No program stands in this text. -/
namespace Go.Proofs.Ytkimldeagndgjaa
set_option linter.unusedVariables false
set_option linter.unusedSimpArgs false
open Go.RowKit Go.Shelf

/-- What a round leaves as it lay: from B on all but M, and T. -/
def KeepM (B : Nat) (M T : List Nat) (W W' : World) : Prop := W.heap.size ≤ W'.heap.size ∧ (∀ k, B ≤ k → k < W.heap.size → k ∉ M → W'.heap[k]? = W.heap[k]?) ∧ ∀ t ∈ T, W'.heap[t]? = W.heap[t]?
theorem KeepM.trans {B : Nat} {M T : List Nat} {X Y Z : World} (h : KeepM B M T X Y) (k : KeepM B M T Y Z) : KeepM B M T X Z :=
  ⟨Nat.le_trans h.1 k.1, fun i hB hi hM => (k.2.1 i hB (Nat.lt_of_lt_of_le hi h.1) hM).trans (h.2.1 i hB hi hM), fun t ht => (k.2.2 t ht).trans (h.2.2 t ht)⟩
theorem KeepM.up {B B' : Nat} {M T : List Nat} {X Y : World} (h : KeepM B M T X Y) (hB : B ≤ B') : KeepM B' M T X Y := ⟨h.1, fun i hi => h.2.1 i (by omega), h.2.2⟩
theorem KeepM.of_fr {B : Nat} {M T S : List Nat} {W W' : World} (h : Fr S W W') (hS : ∀ k ∈ S, k < B ∨ k ∈ M) (hT : ∀ t ∈ T, t < W.heap.size ∧ t ∉ S) : KeepM B M T W W' :=
  ⟨h.size, fun k hB hk hM => h.block k hk (fun hx => by rcases hS k hx with e | e; omega; exact hM e), fun t ht => h.block t (hT t ht).1 (hT t ht).2⟩
theorem KeepM.put {B l : Nat} {M T : List Nat} {W : World} (hl : l < B) (hT : ∀ t ∈ T, t ≠ l) (o : Obj) : KeepM B M T W (W.putObj l o) :=
  ⟨by simp, fun k hk _ _ => World.putObj_heap_other (by omega), fun t ht => World.putObj_heap_other (hT t ht)⟩
theorem KeepM.blk {B : Nat} {M T : List Nat} {W W' : World} {g : Nat} {t : TypeId} {cs : Array Value} (h : KeepM B M T W W') (hB : B ≤ g) (hM : g ∉ M) (b : Blk W g t cs) : Blk W' g t cs := (h.2.1 g hB b.lt hM).trans b
theorem KeepM.blkT {B : Nat} {M T : List Nat} {W W' : World} {g : Nat} {t : TypeId} {cs : Array Value} (h : KeepM B M T W W') (hT : g ∈ T) (b : Blk W g t cs) : Blk W' g t cs := (h.2.2 g hT).trans b
theorem keeps_frM {S : List Nat} {W W' : World} {B : Nat} (h : Fr S W W') (hS : ∀ x ∈ S, x < B ∨ ∃ t cs, Blk W x t cs) : KeepsFrom B W W' :=
  ⟨h.size, fun k o hB hk hc => (h.block k (Array.getElem?_eq_some_iff.1 hk).1 (fun hx => by
    rcases hS k hx with e | ⟨t, cs, e⟩
    · omega
    · unfold Blk at e; rw [e] at hk; cases hk; cases hc)).trans hk⟩

/-- What an iterator over L owes. -/
def SeqM {α : Type} (P : Program) (g : Nat) (lb : Array Value) (encs : α → Array Value) (T : List Nat) (L : List α) (w : World) : Prop :=
  ∀ (l : Nat) (J Jx : List Nat → List α → World → Prop) (W : World), Below w.heap.size w W → (∀ M, OwnFrom W.heap.size (J M)) → (∀ M, OwnFrom W.heap.size (Jx M)) → (∀ M pre W', J M pre W' → ∀ k ∈ M, k < W'.heap.size) →
    (∀ M pre x W1, J M pre W1 → pre ++ [x] <+: L → YieldAt Fence.wide 0 P l (encs x) W1 fun e W' => KeepsFrom W.heap.size W1 W' ∧
      ((e = .returned (.bool true) ∧ ∃ M', (∀ k ∈ M', k ∈ M ∨ W1.heap.size ≤ k) ∧ J M' (pre ++ [x]) W' ∧ KeepM W.heap.size M T W1 W') ∨ (e = .returned (.bool false) ∧ ∃ M', Jx M' (pre ++ [x]) W'))) →
    J [] [] W → Calls P g (#[.func (.yield l) #[] #[]] ++ lb) W fun e W' => (∃ v, e = .returned v) ∧ ((∃ M, J M L W') ∨ ∃ M pre, pre <+: L ∧ Jx M pre W')

/-- How a round's body may be left. -/
def postM {α : Type} (B : Nat) (T : List Nat) (I : List Nat → List α → World → Prop) (Ix : Code → List Nat → List α → World → Prop) (M : List Nat) (xs : List α) (W : World) : Exit → Act → World → Prop
  | .normal, _, W' => KeepsFrom B W W' ∧ KeepM B M T W W' ∧ ∃ M', (∀ k ∈ M', k ∈ M ∨ W.heap.size ≤ k) ∧ I M' xs W'
  | .ret, _, W' => KeepsFrom B W W' ∧ ∃ M', Ix .ret M' xs W'
  | .exit id, _, W' => KeepsFrom B W W' ∧ ∃ M', Ix (.exit id) M' xs W'
  | .goto t, _, W' => KeepsFrom B W W' ∧ ∃ M', Ix (.goto t) M' xs W'
  | .panic _, _, _ => False
  | .outgrown, _, _ => False

section
variable {α : Type} {P : Program} {g : Operand} {ps : Array Tmp} {assign body : Code} {Q : Exit → Act → World → Prop} {a : Act} {w : World}

/-- The rounds and what stands behind them, once the record l lies. -/
theorem range_coreM {l d : Nat} {mark : List Deferred} (W1 : FuncId → World)
    (henter : ∀ fn, (Instr.enterLoop fn a.tmps ps assign body Fence.wide.round).run P w = .ok (l, mark) (W1 fn)) (hl1 : ∀ fn, (W1 fn).heap[l]? = some (.loop (recOf a ps assign body d fn .ready none))) (hsz : ∀ fn, (W1 fn).heap.size = l + 1)
    {gf : Nat} {lb : Array Value} (hg : a.eval g = .func (.func gf) #[] lb) (eg : ∀ args w, (callFunc gf args).run P w = .ok (.enter gf args) w)
    {encs : α → Array Value} {T : List Nat} {L : List α} {w0 : World} (hseq : SeqM P gf lb encs T L w0) (hb0 : ∀ fn, Below w0.heap.size w0 (W1 fn)) (hps : ∀ x, (encs x).size = ps.size)
    (B : Nat) (hB : B ≤ l) (hT : ∀ t ∈ T, t < l) (I : List Nat → List α → World → Prop) (Ix : Code → List Nat → List α → World → Prop) (Ia : List Nat → List α → α → Act → World → Prop)
    (hI : ∀ M, OwnFrom (l + 1) (I M)) (hIx : ∀ c M, OwnFrom (l + 1) (Ix c M)) (hIl : ∀ M pre W', I M pre W' → ∀ k ∈ M, k < W'.heap.size)
    (pI : ∀ M pre W r r', I M pre W → W.heap[l]? = some (.loop r) → I M pre (W.putObj l (.loop r'))) (pIx : ∀ c M pre W r r', Ix c M pre W → W.heap[l]? = some (.loop r) → Ix c M pre (W.putObj l (.loop r')))
    (pIa : ∀ M pre x a' W r r', Ia M pre x a' W → W.heap[l]? = some (.loop r) → Ia M pre x a' (W.putObj l (.loop r'))) (h0 : ∀ fn, I [] [] (W1 fn))
    (hassign : ∀ (M : List Nat) (pre : List α) (x : α) (W : World) (K : Act → World → Prop), I M pre W → pre ++ [x] <+: L → (∀ a' W', KeepsFrom B W W' → KeepM B M T W W' → Ia M pre x a' W' → K a' W') →
      assign.wpIn (Fence.wide.inRound l) 0 P (Exit.then K (fun _ _ _ => False)) { tmps := (ps.zip (encs x)).foldl (fun t (p, v) => t.setIfInBounds p v) a.tmps, defers := [] } W)
    (hbody : ∀ (M : List Nat) (pre : List α) (x : α) (a' : Act) (W : World), (∃ r, W.heap[l]? = some (.loop r)) → Ia M pre x a' W → pre ++ [x] <+: L → body.wpIn (Fence.wide.inRound l) 0 P (postM B T I Ix M (pre ++ [x]) W) a' W)
    (hdone : ∀ (M : List Nat) (W : World), I M L W → Q .normal { a with defers := mark ++ a.defers } W)
    (hstop : ∀ (c : Code) (M : List Nat) (pre : List α) (W : World), pre <+: L → Ix c M pre W → c.wpIn Fence.wide 0 P Q { a with defers := mark ++ a.defers } W) :
    (Code.rangeFunc g ps assign body).wpIn Fence.wide 0 P Q a w := by
  refine wpIn_rangeFunc ?_
  intro fn hfn
  have hcore : Calls P gf (#[.func (.yield l) #[] #[]] ++ lb) (W1 fn) (rangePost Fence.wide 0 P l Q { a with defers := mark ++ a.defers }) := by
    refine (hseq l (fun M pre W => I M pre W ∧ W.heap[l]? = some (.loop (recOf a ps assign body d fn .ready none)))
      (fun M pre W => ∃ c, Ix c M pre W ∧ W.heap[l]? = some (.loop (recOf a ps assign body d fn .done (some c)))) (W1 fn) (hb0 fn) ?_ ?_ (fun M pre W' h => hIl M pre W' h.1) ?_ ⟨h0 fn, hl1 fn⟩).mono ?_
    · rw [hsz fn]
      exact fun M s A C row hs hgr hr => ⟨hI M s A C row hs.1 hgr hr, (hgr.block l (Array.getElem?_eq_some_iff.1 hs.2).1 (fun e => by have := (hr l e.symm).1; omega)).trans hs.2⟩
    · rw [hsz fn]
      rintro M s A C row ⟨c, hc, hl⟩ hgr hr
      exact ⟨c, hIx c M s A C row hc hgr hr, (hgr.block l (Array.getElem?_eq_some_iff.1 hl).1 (fun e => by have := (hr l e.symm).1; omega)).trans hl⟩
    · rintro M pre x W ⟨hi, hl⟩ hpx
      have hy := run_yield (P := P) (args := encs x) hl (hps x)
      refine ⟨fn, _, assign, body, hy, roundIn_of_wpIn trivial (hassign M pre x W _ hi hpx ?_)⟩
      intro a' Wa hka hsa hia
      have hla := hka.same _ _ hB hl rfl
      refine ⟨_, run_beginRound hla rfl, ?_⟩
      have hlt : l < Wa.heap.size := (Array.getElem?_eq_some_iff.1 hla).1
      have hl2 := World.putObj_heap_same (o := .loop { recOf a ps assign body d fn .ready none with state := .busy }) hlt
      refine wpIn_mono (hbody M pre x a' _ ⟨_, hl2⟩ (pIa _ _ _ _ _ _ _ hia hla) hpx) ?_
      have hTl : ∀ t ∈ T, t ≠ l := fun t ht e => by have := hT t ht; omega
      have fin : ∀ (jump : Option Code) (W3 : World), KeepsFrom B (Wa.putObj l (.loop { recOf a ps assign body d fn .ready none with state := .busy })) W3 →
          ∃ r3, W3.heap[l]? = some (.loop r3) ∧ (Instr.endRound l jump).run P W3 = .ok (.bool jump.isNone) (W3.putObj l (.loop (recOf a ps assign body d fn (if jump.isNone then .ready else .done) jump))) ∧
          (W3.putObj l (.loop (recOf a ps assign body d fn (if jump.isNone then .ready else .done) jump))).heap[l]? = some (.loop (recOf a ps assign body d fn (if jump.isNone then .ready else .done) jump)) ∧
          KeepsFrom (W1 fn).heap.size W (W3.putObj l (.loop (recOf a ps assign body d fn (if jump.isNone then .ready else .done) jump))) := fun jump W3 hk3 => by
        have hl3 := hk3.same _ _ hB hl2 rfl
        refine ⟨_, hl3, run_endRound (P := P) jump hl3, World.putObj_heap_same (Array.getElem?_eq_some_iff.1 hl3).1, ?_⟩
        rw [hsz fn]
        exact (((keeps_up hka (by omega)).trans (keeps_putObj (by omega) _)).trans (keeps_up hk3 (by omega))).trans (keeps_putObj (by omega) _)
      rintro e a3 W3 hp
      cases e with
      | normal =>
        obtain ⟨hk3, hs3, M', hM', hi3⟩ := hp
        obtain ⟨r3, hl3, hr, hl4, hk4⟩ := fin none W3 hk3
        refine ⟨_, _, hr, hk4, .inl ⟨rfl, M', fun k hk => ?_, ⟨pI _ _ _ _ _ hi3 hl3, hl4⟩, ?_⟩⟩
        · rcases hM' k hk with h1 | h1
          · exact .inl h1
          · have h2 := hka.size
            exact .inr (Nat.le_trans h2 (Nat.le_trans (by simp) h1))
        · rw [hsz fn]
          exact (((hsa.up (by omega)).trans (KeepM.put (by omega) hTl _)).trans (hs3.up (by omega))).trans (KeepM.put (by omega) hTl _)
      | ret =>
        obtain ⟨hk3, M', hi3⟩ := hp
        obtain ⟨r3, hl3, hr, hl4, hk4⟩ := fin (some .ret) W3 hk3
        exact ⟨_, _, hr, hk4, .inr ⟨rfl, M', .ret, pIx _ _ _ _ _ _ hi3 hl3, hl4⟩⟩
      | exit id =>
        obtain ⟨hk3, M', hi3⟩ := hp
        obtain ⟨r3, hl3, hr, hl4, hk4⟩ := fin (some (.exit id)) W3 hk3
        exact ⟨_, _, hr, hk4, .inr ⟨rfl, M', .exit id, pIx _ _ _ _ _ _ hi3 hl3, hl4⟩⟩
      | goto t =>
        obtain ⟨hk3, M', hi3⟩ := hp
        obtain ⟨r3, hl3, hr, hl4, hk4⟩ := fin (some (.goto t)) W3 hk3
        exact ⟨_, _, hr, hk4, .inr ⟨rfl, M', .goto t, pIx _ _ _ _ _ _ hi3 hl3, hl4⟩⟩
      | panic ch => exact hp.elim
      | outgrown => exact hp.elim
    · rintro e W2 ⟨⟨v, rfl⟩, (⟨M, hi, hl⟩ | ⟨M, pre, hpre, c, hi, hl⟩)⟩
      · exact ⟨none, _, run_endLoop (P := P) hl (by simp [recOf]), hdone M _ (pI _ _ _ _ _ hi hl)⟩
      · exact ⟨some c, _, run_endLoop (P := P) hl (by simp [recOf]), hstop c M pre _ hpre (pIx _ _ _ _ _ _ hi hl)⟩
  refine ⟨l, mark, W1 fn, { target := .fn (.func gf) lb, args := #[.func (.yield l) #[] #[]] }, W1 fn, gf, #[.func (.yield l) #[] #[]] ++ lb, W1 fn, henter fn, ?_, ?_, ?_, ?_, ?_⟩
  · simp only [resolve, hg]
    simp [go_sem]
  · rintro f' _
    trivial
  · simp [invoke, go_sem, eg]
  · intro hd
    simp [Fence.wide] at hd
  · exact callsIn_wide.2 hcore

/-- A range over such an iterator in a function's own frame. -/
theorem range_outerM {gf : Nat} {lb : Array Value} (hg : a.eval g = .func (.func gf) #[] lb) (eg : ∀ args w, (callFunc gf args).run P w = .ok (.enter gf args) w)
    {encs : α → Array Value} {T : List Nat} {L : List α} {w0 : World} (hseq : SeqM P gf lb encs T L w0) (hb0 : Below w0.heap.size w0 w) (hps : ∀ x, (encs x).size = ps.size) (hT : ∀ t ∈ T, t < w.heap.size)
    (I : List Nat → List α → World → Prop) (Ix : Code → List Nat → List α → World → Prop) (Ia : List Nat → List α → α → Act → World → Prop)
    (hI : ∀ M, OwnFrom w.heap.size (I M)) (hIx : ∀ c M, OwnFrom w.heap.size (Ix c M)) (hIa : ∀ M pre x, OwnFrom w.heap.size (Ia M pre x)) (hIl : ∀ M pre W', I M pre W' → ∀ k ∈ M, k < W'.heap.size) (h0 : I [] [] w)
    (hassign : ∀ (l : Nat) (M : List Nat) (pre : List α) (x : α) (W : World) (K : Act → World → Prop), I M pre W → pre ++ [x] <+: L → (∀ a' W', KeepsFrom w.heap.size W W' → KeepM w.heap.size M T W W' → Ia M pre x a' W' → K a' W') →
      assign.wpIn (Fence.wide.inRound l) 0 P (Exit.then K (fun _ _ _ => False)) { tmps := (ps.zip (encs x)).foldl (fun t (p, v) => t.setIfInBounds p v) a.tmps, defers := [] } W)
    (hbody : ∀ (l : Nat) (M : List Nat) (pre : List α) (x : α) (a' : Act) (W : World), w.heap.size ≤ l → (∃ r, W.heap[l]? = some (.loop r)) → Ia M pre x a' W → pre ++ [x] <+: L → body.wpIn (Fence.wide.inRound l) 0 P (postM w.heap.size T I Ix M (pre ++ [x]) W) a' W)
    (hdone : ∀ (D : Nat) (M : List Nat) (W : World), w.heap.size ≤ D → I M L W → W.heap[D]? = some (.deferred (some [])) → Q .normal { a with defers := { target := .collected D, args := #[] } :: a.defers } W)
    (hstop : ∀ (D : Nat) (c : Code) (M : List Nat) (pre : List α) (W : World), w.heap.size ≤ D → pre <+: L → Ix c M pre W → W.heap[D]? = some (.deferred (some [])) → c.wpIn Fence.wide 0 P Q { a with defers := { target := .collected D, args := #[] } :: a.defers } W) :
    (Code.rangeFunc g ps assign body).wpIn Fence.wide 0 P Q a w := by
  have hkeep : ∀ {W W' : World}, KeepsFrom w.heap.size W W' → W.heap[w.heap.size]? = some (.deferred (some [])) → W'.heap[w.heap.size]? = some (.deferred (some [])) := fun hk h => hk.same _ _ (Nat.le_refl _) h rfl
  have hown : ∀ {β : Type}, OwnFrom (w.heap.size + 1 + 1) (fun (_ : β) (W : World) => W.heap[w.heap.size]? = some (.deferred (some []))) := fun s A C row hs hgr hr => (hgr.block _ (Array.getElem?_eq_some_iff.1 hs).1 (fun e => by have := (hr _ e.symm).1; omega)).trans hs
  have hput : ∀ (W : World) (o : Obj), W.heap[w.heap.size]? = some (.deferred (some [])) → (W.putObj (w.heap.size + 1) o).heap[w.heap.size]? = some (.deferred (some [])) := fun W o h => (World.putObj_heap_other (by omega)).trans h
  refine range_coreM (l := w.heap.size + 1) (d := w.heap.size) (mark := [{ target := .collected w.heap.size, args := #[] }])
    (fun fn => (w.alloc (.deferred (some []))).alloc (.loop (recOf a ps assign body w.heap.size fn .ready none))) (fun fn => run_enterLoop_outer _ _ _ _ _)
    (fun fn => by have := World.alloc_heap_new (w.alloc (.deferred (some []))) (.loop (recOf a ps assign body w.heap.size fn .ready none)); rwa [World.size_alloc] at this) (fun fn => by simp) hg eg hseq
    (fun fn => hb0.trans ((((Below.refl _ w).alloc (Nat.le_refl _) _).alloc (by simp) _).mono hb0.size)) hps w.heap.size (by omega) (fun t ht => by have := hT t ht; omega)
    (fun M pre W => I M pre W ∧ W.heap[w.heap.size]? = some (.deferred (some []))) (fun c M pre W => Ix c M pre W ∧ W.heap[w.heap.size]? = some (.deferred (some []))) (fun M pre x a' W => Ia M pre x a' W ∧ W.heap[w.heap.size]? = some (.deferred (some [])))
    (fun M => OwnFrom.and (own_up (hI M) (by omega)) hown) (fun c M => OwnFrom.and (own_up (hIx c M) (by omega)) hown) (fun M pre W' h => hIl M pre W' h.1)
    (fun M pre W r r' h hl => ⟨(hI M).putObj _ h.1 (by omega) hl rfl, hput _ _ h.2⟩) (fun c M pre W r r' h hl => ⟨(hIx c M).putObj _ h.1 (by omega) hl rfl, hput _ _ h.2⟩) (fun M pre x a' W r r' h hl => ⟨(hIa M pre x).putObj _ h.1 (by omega) hl rfl, hput _ _ h.2⟩)
    (fun fn => ⟨(hI []).alloc _ ((hI []).alloc _ h0), (Below.heap_alloc _ _ _ (by simp)).trans (World.alloc_heap_new w _)⟩)
    (fun M pre x W K hi hpx hK => hassign _ M pre x W K hi.1 hpx (fun a' W' h1 h2 h3 => hK a' W' h1 h2 ⟨h3, hkeep h1 hi.2⟩))
    (fun M pre x a' W hr hi hpx => wpIn_mono (hbody _ M pre x a' W (by omega) hr hi.1 hpx) ?_)
    (fun M W h => hdone _ M W (Nat.le_refl _) h.1 h.2) (fun c M pre W hpre h => hstop _ c M pre W (Nat.le_refl _) hpre h.1 h.2)
  rintro e a3 W3 hp
  cases e with
  | normal =>
    obtain ⟨h1, h2, M', h3, h4⟩ := hp
    exact ⟨h1, h2, M', h3, h4, hkeep h1 hi.2⟩
  | ret => obtain ⟨h1, M', h4⟩ := hp; exact ⟨h1, M', h4, hkeep h1 hi.2⟩
  | exit id => obtain ⟨h1, M', h4⟩ := hp; exact ⟨h1, M', h4, hkeep h1 hi.2⟩
  | goto t => obtain ⟨h1, M', h4⟩ := hp; exact ⟨h1, M', h4, hkeep h1 hi.2⟩
  | panic ch => exact hp.elim
  | outgrown => exact hp.elim
end
end Go.Proofs.Ytkimldeagndgjaa
