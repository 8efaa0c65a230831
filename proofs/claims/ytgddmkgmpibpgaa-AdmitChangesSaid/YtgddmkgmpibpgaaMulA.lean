/- The document's numbers of 128 bits, walked: Of, Left, Add, Mul, Halves. -/
import Derived.Test.YtgddmkgmpibpgaaProg
import Derived.Test.YtgddmkgmpibpgaaApp
import Derived.Laws.Bits64b
import Derived.Outline
namespace Go.Proofs.Ytgddmkgmpibpgaa
set_option linter.unusedVariables false
set_option linter.unusedSimpArgs false
open Go.RowKit

/-- 128 bits, as cells. -/
def bitC (f : Nat → Bool) : Array Value := row1 128 (fun i => .bool (f i))
def bitsV (x : BitVec 128) : Value := .agg (bitC x.getLsbD)
theorem bitC_size (f : Nat → Bool) : (bitC f).size = 128 := row1_size _ _
theorem bitC_congr {f g : Nat → Bool} (h : ∀ i, i < 128 → f i = g i) : bitC f = bitC g := row1_congr fun i hi => by rw [h i hi]
theorem bitC_one (f : Nat → Bool) : (bitC f).all (·.oneCell') = true := by
  rw [Array.all_eq_true_iff_forall_mem]
  intro v hv
  simp only [bitC, row1, Array.mem_ofFn] at hv
  obtain ⟨i, rfl⟩ := hv
  rfl
theorem Blk.bput {w : World} {g : Nat} {t : TypeId} {f : Nat → Bool} {i : Nat} {b : Bool} (h : Blk w g t (bitC f)) : Blk (w.setCell ⟨g, i, none⟩ (.bool b)) g t (bitC (fun j => if j = i then b else f j)) :=
  (Blk.rput h).cast (row1_congr fun j _ => by by_cases c : j = i <;> simp [c])
theorem Blk.bat {w : World} {g : Nat} {t : TypeId} {f : Nat → Bool} (h : Blk w g t (bitC f)) {i : Nat} (hi : i < 128) : w.cell? ⟨g, i, none⟩ = some (.bool (f i)) := Blk.rat h hi

theorem zero_bits : Try.zeroCells161 = bitC (fun _ => false) := by kernel_rfl
theorem info_bits : (Try.prog.info? 161).map (·.size) = some 128 := by kernel_rfl
theorem bitw {x b : Nat} (hx : x < 2 ^ 64) : (bits .and .u64 ((x : Int) / 2 ^ b) 1 == 1) = x.testBit b := by
  have e : ((x : Int) / 2 ^ b) = ((x / 2 ^ b : Nat) : Int) := by simp
  have hl : x / 2 ^ b < 18446744073709551616 := Nat.lt_of_le_of_lt (Nat.div_le_self _ _) hx
  rw [e, show (1 : Int) = ((1 : Nat) : Int) from rfl, bits_and_u64_nat _ 1 hl (by omega), Nat.and_one_is_mod, Nat.testBit_eq_decide_div_mod_eq]
  by_cases c : x / 2 ^ b % 2 = 1
  · simp [c]
  · simp [c]; omega

/-- An array of bits, its cells under a name. -/
def IsBits (cs : Array Value) (f : Nat → Bool) : Prop := cs = bitC f
theorem IsBits.size {cs : Array Value} {f : Nat → Bool} (h : IsBits cs f) : cs.size = 128 := by rw [show cs = _ from h, bitC_size]
theorem wpList_loadB {ops : Array Oper} {rest : List Oper} {o : Oper} {a : Act} {w : World} {Q : Exit → Act → World → Prop} (hgd : o.guard = none) (x : Operand) (ho : o.op = .load 161 x)
    (g : Nat) (hx : a.eval x = .pointer (some ⟨g, 0, none⟩)) (cs : Array Value) (f : Nat → Bool) (B : Blk w g 161 cs) (hc : IsBits cs f) (h : wpList Try.prog ops Q rest (a.put o.dst (.agg cs)) w) : wpList Try.prog ops Q (o :: rest) a w :=
  wpList_load_row hgd _ x ho g hx _ _ (0, 0) _ B Try.underlying161 rfl (by rw [hc.size]; exact info_bits) h
theorem wpList_storeB {ops : Array Oper} {rest : List Oper} {o : Oper} {a : Act} {w : World} {Q : Exit → Act → World → Prop} (hgd : o.guard = none) (x y : Operand) (ho : o.op = .store 161 x y)
    (g : Nat) (old cs : Array Value) (f f' : Nat → Bool) (hx : a.eval x = .pointer (some ⟨g, 0, none⟩)) (hy : a.eval y = .agg cs) (B : Blk w g 161 old) (h1 : IsBits old f) (h2 : IsBits cs f')
    (h : ∀ w', Blk w' g 161 cs → Fr [g] w w' → wpList Try.prog ops Q rest (a.put o.dst undef) w') : wpList Try.prog ops Q (o :: rest) a w :=
  wpList_store_row hgd _ x y ho g _ hx hy _ _ B (by rw [h2.size]; exact info_bits) (by rw [h1.size, h2.size]) (by rw [show cs = _ from h2]; exact bitC_one _)
    (h _ (setRow_heap w g _ _ _ _ B) ⟨rfl, rfl, rfl, by simp [World.setRow], fun k _ hk => setRow_other w g k _ (fun e => hk (by simp [e]))⟩)
theorem res_bits {fn : Func} {p : Tmp} (h : fn.results = #[.cell p 161]) (tmps : Array Value) (w : World) (g : Nat) (cs : Array Value) (f : Nat → Bool) (hp : tmps.getD p undef = .pointer (some ⟨g, 0, none⟩)) (B : Blk w g 161 cs) (hc : IsBits cs f) :
    (results fn tmps).run Try.prog w = .ok (.agg cs) w :=
  results_cell_row h tmps w g _ _ (0, 0) _ hp B Try.underlying161 rfl (by rw [hc.size]; exact info_bits)
theorem fr_new2 {w w' w'' : World} {g : Nat} (hg : w.heap.size ≤ g) (h : Fr [] w w') (k : Fr [g] w' w'') : Fr [] w w'' :=
  ⟨k.os.trans h.os, k.tape.trans h.tape, k.output.trans h.output, Nat.le_trans h.size k.size, fun i hi _ => (k.block i (Nat.lt_of_lt_of_le hi h.size) (by simp; omega)).trans (h.block i hi (by simp))⟩

theorem IsBits.cast {cs : Array Value} {f g : Nat → Bool} (h : IsBits cs f) (he : ∀ j, j < 128 → f j = g j) : IsBits cs g := (show cs = _ from h).trans (bitC_congr he)
def GivesB (x : BitVec 128) (w : World) (e : Ending) (w' : World) : Prop := (∃ cs, IsBits cs x.getLsbD ∧ e = .returned (.agg cs)) ∧ Fr [] w w'
/-- What a loop over the bits stands at. -/
def ofB (a i j : Nat) : Bool := decide (j < i) && a.testBit j

set_option maxHeartbeats 1000000 in
set_option maxRecDepth 100000 in
theorem refOf_any (w : World) (a : Nat) (ha : a < 2 ^ 64) :
    Calls Try.prog 125 #[.int .u64 0, .int .u64 (a : Int)] w (GivesB (BitVec.ofNat 128 a) w) := by
  have a0 : (0 : Int) ≤ (a : Int) := by omega
  have a1 : (a : Int) < 18446744073709551616 := by omega
  have HA := Lib.hid ha
  have zb : bits .and .u64 0 1 = 0 := by decide
  clear ha
  go_enter Try.func125, Try.ntmps125
  go_wp2_with fail
  go_loopw [6] (fun s6 wr => ∃ i : Nat, i ≤ 64 ∧ s6 = .int .i64 i ∧ Fr [] w wr ∧ Blk wr w.heap.size 161 (bitC (fun _ => false)) ∧ Blk wr (w.heap.size + 1) 161 (bitC (ofB a i))) (fun s6 _ => 64 - (intOf s6).toNat)
  case atStart =>
    refine ⟨0, by omega, rfl, by with_reducible repeat (first | exact Fr.refl _ _ | assumption | apply Fr.drew | apply Fr.drewN | apply Fr.alloc | (apply Fr.step; assumption; (intro _ h; (first | exact h | (focus (simp_all; done))))) | (apply Fr.setIn; (first | exact List.mem_cons_self | exact List.mem_cons_of_mem _ List.mem_cons_self | exact List.mem_cons_of_mem _ (List.mem_cons_of_mem _ List.mem_cons_self) | exact List.mem_cons_of_mem _ (List.mem_cons_of_mem _ (List.mem_cons_of_mem _ List.mem_cons_self)))) | (apply Fr.setNew; (first | omega | (simp; omega)))), ?_, ?_⟩
    · rw [zero_bits]; exact (Blk.new _ _ _).alloc _
    · rw [zero_bits]; exact ((World.size_alloc w _) ▸ Blk.new _ _ _ : Blk _ (w.heap.size + 1) _ _).cast (bitC_congr fun j _ => by simp [ofB])
  case round =>
    obtain ⟨i, hi, rfl, F, B4, B5⟩ := hrel
    have i0 : (0 : Int) ≤ (i : Int) := by omega
    by_cases hlt : i < 64
    · have i1 : (i : Int) < 64 := by omega
      have i2 : i < 128 := by omega
      have i3 : (i : Int) < 128 := by omega
      have i4 : i + 64 < 128 := by omega
      have i5 : (i : Int) + 64 < 128 := by omega
      have x1 := B5.bat i2
      have x2 := B5.bat i4
      have f5 := B5.frozen
      have l5 := B5.lt
      have e1 : ¬ i = i + 64 := by omega
      have e2 : ¬ i + 64 = i := by omega
      have hb := bitw (b := i) HA.out
      have HBB := Lib.hid hb
      clear hb
      go_wp2_with fail
      go_roundw
      case rel =>
        refine ⟨i + 1, by omega, by simp, by with_reducible repeat (first | exact Fr.refl _ _ | assumption | apply Fr.drew | apply Fr.drewN | apply Fr.alloc | (apply Fr.step; assumption; (intro _ h; (first | exact h | (focus (simp_all; done))))) | (apply Fr.setIn; (first | exact List.mem_cons_self | exact List.mem_cons_of_mem _ List.mem_cons_self | exact List.mem_cons_of_mem _ (List.mem_cons_of_mem _ List.mem_cons_self) | exact List.mem_cons_of_mem _ (List.mem_cons_of_mem _ (List.mem_cons_of_mem _ List.mem_cons_self)))) | (apply Fr.setNew; (first | omega | (simp; omega)))), (B4.off (by omega)).off (by omega), (Blk.bput (Blk.bput B5)).cast (bitC_congr fun j hj => ?_)⟩
        rw [HBB.out]
        have hz : a.testBit (i + 64) = false := Nat.testBit_lt_two_pow (Nat.lt_of_lt_of_le HA.out (Nat.pow_le_pow_right (by omega) (by omega)))
        by_cases c1 : j = i + 64
        · subst c1; simp [ofB, hz]
        · by_cases c2 : j = i
          · subst c2; simp [ofB, c1]
          · have : (j < i + 1) ↔ (j < i) := by omega
            simp [ofB, c1, c2, this]
      case measure => simp [intOf]; omega
    · obtain rfl : i = 64 := by omega
      obtain ⟨cs, hcs⟩ : ∃ cs, IsBits cs (ofB a 64) := ⟨_, rfl⟩
      obtain ⟨c0, hc0⟩ : ∃ cs, IsBits cs (fun _ => false) := ⟨_, rfl⟩
      rw [← show cs = _ from hcs] at B5
      rw [← show c0 = _ from hc0] at B4
      go_wp2_with (first
        | (refine wpList_loadB rfl (.tmp 5) rfl (w.heap.size + 1) rfl cs _ B5 hcs ?_)
        | (refine wpList_storeB rfl (.tmp 4) (.tmp 28) rfl w.heap.size _ _ _ _ rfl rfl B4 hc0 hcs ?_
           intro w5 B6 F6))
      refine bodyPost_ret (res_bits rfl _ _ w.heap.size _ _ rfl B6 hcs) rfl ⟨⟨_, ?_, rfl⟩, fr_new2 (Nat.le_refl _) F F6⟩
      refine hcs.cast fun j hj => ?_
      rw [BitVec.getLsbD_ofNat]
      by_cases c : j < 64
      · simp [ofB, c, hj]
      · have : a.testBit j = false := Nat.testBit_lt_two_pow (Nat.lt_of_lt_of_le HA.out (Nat.pow_le_pow_right (by omega) (by omega)))
        simp [ofB, this]

def leftB (x : BitVec 128) (n i j : Nat) : Bool := decide (j < i) && (decide (n ≤ j) && x.getLsbD (j - n))
set_option maxHeartbeats 1000000 in
set_option maxRecDepth 100000 in
theorem refLeft_any (w : World) (x : BitVec 128) (cs : Array Value) (hcs : IsBits cs x.getLsbD) (n : Nat) (hn : n < 64) :
    Calls Try.prog 127 #[.agg cs, .int .i64 (n : Int)] w (GivesB (x <<< n) w) := by
  have HC := Lib.hid hcs
  have n0 : (0 : Int) ≤ (n : Int) := by omega
  have n1 : ¬ (n : Int) < 0 := by omega
  have n2 : (n : Int) < 128 := by omega
  have hs := hcs.size
  obtain ⟨c0, hc0⟩ : ∃ cs, IsBits cs (fun _ => false) := ⟨_, rfl⟩
  have H0 := Lib.hid hc0
  clear hcs hc0
  go_enter Try.func127, Try.ntmps127
  go_wp2_with fail
  rw [zero_bits]
  go_loopw [6] (fun s6 wr => ∃ i : Nat, i ≤ 128 ∧ s6 = .int .i64 i ∧ Fr [] w wr ∧ Blk wr w.heap.size 161 cs ∧ Blk wr (w.heap.size + 1) 161 (bitC (fun _ => false)) ∧ Blk wr (w.heap.size + 1 + 1) 161 (bitC (leftB x n i))) (fun s6 _ => 128 - (intOf s6).toNat)
  case atStart =>
    refine ⟨0, by omega, rfl, by with_reducible repeat (first | exact Fr.refl _ _ | assumption | apply Fr.drew | apply Fr.drewN | apply Fr.alloc | (apply Fr.step; assumption; (intro _ h; (first | exact h | (focus (simp_all; done))))) | (apply Fr.setIn; (first | exact List.mem_cons_self | exact List.mem_cons_of_mem _ List.mem_cons_self | exact List.mem_cons_of_mem _ (List.mem_cons_of_mem _ List.mem_cons_self) | exact List.mem_cons_of_mem _ (List.mem_cons_of_mem _ (List.mem_cons_of_mem _ List.mem_cons_self)))) | (apply Fr.setNew; (first | omega | (simp; omega)))), ((Blk.new _ _ _).alloc _).alloc _, ?_, ?_⟩
    · exact Blk.alloc ((World.size_alloc w _) ▸ Blk.new _ _ _ : Blk _ (w.heap.size + 1) _ _) _
    · refine Blk.cast (cs := bitC (fun _ => false)) (Blk.newAt rfl (by simp)) (bitC_congr fun j _ => by simp [leftB])
  case round =>
    obtain ⟨i, hi, rfl, F, B2, B4, B5⟩ := hrel
    have i0 : (0 : Int) ≤ (i : Int) := by omega
    by_cases hlt : i < 128
    · have i1 : (i : Int) < 128 := by omega
      have x2 : ∀ k, k < 128 → wr.cell? ⟨w.heap.size, k, none⟩ = some (.bool (x.getLsbD k)) := fun k hk => (show cs = _ from HC.out) ▸ B2 |>.bat hk
      have HX2 := Lib.hid x2
      have x5 := B5.bat hlt
      have f5 := B5.frozen
      have l5 := B5.lt
      clear x2
      by_cases hni : n ≤ i
      · have k0 : (n : Int) ≤ (i : Int) := by omega
        have k1 : i - n < 128 := by omega
        have k2 : (i : Int) - (n : Int) < 128 := by omega
        have k3 : (0 : Int) ≤ (i : Int) - (n : Int) := by omega
        obtain ⟨d, hd⟩ : ∃ d : Nat, (i : Int) - (n : Int) = (d : Int) := ⟨i - n, by omega⟩
        have hd' : d = i - n := by omega
        have xd := HX2.out d (by omega)
        have d0 : ((i : Int) - (n : Int)).toNat = d := by omega
        have HD := Lib.hid hd'
        clear hd'
        go_wp2_with fail
        go_roundw
        case rel =>
          refine ⟨i + 1, by omega, by simp, by with_reducible repeat (first | exact Fr.refl _ _ | assumption | apply Fr.drew | apply Fr.drewN | apply Fr.alloc | (apply Fr.step; assumption; (intro _ h; (first | exact h | (focus (simp_all; done))))) | (apply Fr.setIn; (first | exact List.mem_cons_self | exact List.mem_cons_of_mem _ List.mem_cons_self | exact List.mem_cons_of_mem _ (List.mem_cons_of_mem _ List.mem_cons_self) | exact List.mem_cons_of_mem _ (List.mem_cons_of_mem _ (List.mem_cons_of_mem _ List.mem_cons_self)))) | (apply Fr.setNew; (first | omega | (simp; omega)))), B2.off (by omega), B4.off (by omega), (Blk.bput B5).cast (bitC_congr fun j _ => ?_)⟩
          by_cases c : j = i
          · subst c; simp [leftB, hni, HD.out]
          · have : (j < i + 1) ↔ (j < i) := by omega
            simp [leftB, this, c]
        case measure => simp [intOf]; omega
      · have k0 : ¬ (n : Int) ≤ (i : Int) := by omega
        go_wp2_with fail
        go_roundw
        case rel =>
          refine ⟨i + 1, by omega, by simp, F, B2, B4, B5.cast (bitC_congr fun j _ => ?_)⟩
          by_cases c : j = i
          · subst c; simp [leftB, hni]
          · have : (j < i + 1) ↔ (j < i) := by omega
            simp [leftB, this]
        case measure => simp [intOf]; omega
    · obtain rfl : i = 128 := by omega
      obtain ⟨c5, hc5⟩ : ∃ cs, IsBits cs (leftB x n 128) := ⟨_, rfl⟩
      obtain ⟨c4, hc4⟩ : ∃ cs, IsBits cs (fun _ => false) := ⟨_, rfl⟩
      rw [← show c5 = _ from hc5] at B5
      rw [← show c4 = _ from hc4] at B4
      go_wp2_with (first
        | (refine wpList_loadB rfl (.tmp 5) rfl (w.heap.size + 1 + 1) rfl _ _ B5 hc5 ?_)
        | (refine wpList_storeB rfl (.tmp 4) (.tmp 28) rfl (w.heap.size + 1) _ _ _ _ rfl rfl B4 hc4 hc5 ?_
           intro w5 B6 F6))
      refine bodyPost_ret (res_bits rfl _ _ (w.heap.size + 1) _ _ rfl B6 hc5) rfl ⟨⟨_, ?_, rfl⟩, fr_new2 (by omega) F F6⟩
      refine hc5.cast fun j hj => ?_
      rw [BitVec.getLsbD_shiftLeft]
      by_cases c : j < n
      · have : ¬ n ≤ j := by omega
        simp [leftB, hj, c, this]
      · have : n ≤ j := by omega
        simp [leftB, hj, c, this]

def addB (x y : BitVec 128) (i j : Nat) : Bool := decide (j < i) && (x + y).getLsbD j
def GivesB2 (x : BitVec 128) (w : World) (e : Ending) (w' : World) : Prop := (∃ cs b, IsBits cs x.getLsbD ∧ e = .returned (.tuple #[.agg cs, .bool b])) ∧ Fr [] w w'
theorem results_cell_tmp {P : Program} {fn : Func} {p q : Tmp} {T : TypeId} {v b : Value} (h : fn.results = #[.cell p T, .tmp q]) (tmps : Array Value) (w : World) (g : Nat) (hp : tmps.getD p undef = .pointer (some ⟨g, 0, none⟩)) (hq : tmps.getD q undef = b) (hl : (loadVar T ⟨g, 0, none⟩).run P w = .ok v w) :
    (results fn tmps).run P w = .ok (.tuple #[v, b]) w := by
  have hp' : tmps[p]?.getD undef = .pointer (some ⟨g, 0, none⟩) := by simpa using hp
  have hq' : tmps[q]?.getD undef = b := by simpa using hq
  simp [results, h, hp', hq', asAddr, hl]
theorem results_bits2 {fn : Func} {p q : Tmp} {b : Value} (h : fn.results = #[.cell p 161, .tmp q]) (tmps : Array Value) (w : World) (g : Nat) (cs : Array Value) (f : Nat → Bool) (hp : tmps.getD p undef = .pointer (some ⟨g, 0, none⟩)) (hq : tmps.getD q undef = b) (B : Blk w g 161 cs) (hc : IsBits cs f) :
    (results fn tmps).run Try.prog w = .ok (.tuple #[.agg cs, b]) w :=
  results_cell_tmp h tmps w g hp hq (run_loadVar_row (P := Try.prog) w g 161 161 cs (0, 0) _ B Try.underlying161 rfl (by rw [hc.size]; exact info_bits))

set_option maxHeartbeats 4000000 in
set_option maxRecDepth 100000 in
theorem refAdd_any (w : World) (x y : BitVec 128) (cs ds : Array Value) (hcs : IsBits cs x.getLsbD) (hds : IsBits ds y.getLsbD) :
    Calls Try.prog 126 #[.agg cs, .agg ds] w (GivesB2 (x + y) w) := by
  have HC := Lib.hid hcs
  have HD := Lib.hid hds
  have hs := hcs.size
  have hs' := hds.size
  clear hcs hds
  go_enter Try.func126, Try.ntmps126
  go_wp2_with fail
  rw [zero_bits]
  go_loopw [7, 8] (fun s7 s8 wr => ∃ i : Nat, i ≤ 128 ∧ s8 = .int .i64 i ∧ s7 = .bool (BitVec.carry i x y false) ∧ Fr [] w wr ∧ Blk wr w.heap.size 161 cs ∧ Blk wr (w.heap.size + 1) 161 ds ∧ Blk wr (w.heap.size + 1 + 1) 161 (bitC (fun _ => false)) ∧ Blk wr (w.heap.size + 1 + 1 + 1) 161 (bitC (addB x y i))) (fun _ s8 _ => 128 - (intOf s8).toNat)
  case atStart =>
    refine ⟨0, by omega, rfl, by rw [BitVec.carry_zero], by with_reducible repeat (first | exact Fr.refl _ _ | assumption | apply Fr.drew | apply Fr.drewN | apply Fr.alloc | (apply Fr.step; assumption; (intro _ h; (first | exact h | (focus (simp_all; done))))) | (apply Fr.setIn; (first | exact List.mem_cons_self | exact List.mem_cons_of_mem _ List.mem_cons_self | exact List.mem_cons_of_mem _ (List.mem_cons_of_mem _ List.mem_cons_self) | exact List.mem_cons_of_mem _ (List.mem_cons_of_mem _ (List.mem_cons_of_mem _ List.mem_cons_self)))) | (apply Fr.setNew; (first | omega | (simp; omega)))), (((Blk.new _ _ _).alloc _).alloc _).alloc _, ?_, ?_, ?_⟩
    · exact Blk.alloc (Blk.alloc (Blk.newAt rfl (by simp)) _) _
    · exact Blk.alloc (Blk.newAt rfl (by simp)) _
    · exact Blk.cast (cs := bitC (fun _ => false)) (Blk.newAt rfl (by simp)) (bitC_congr fun j _ => by simp [addB])
  case round =>
    obtain ⟨i, hi, rfl, rfl, F, B2, B3, B4, B5⟩ := hrel
    have i0 : (0 : Int) ≤ (i : Int) := by omega
    by_cases hlt : i < 128
    · have i1 : (i : Int) < 128 := by omega
      have x2 : wr.cell? ⟨w.heap.size, i, none⟩ = some (.bool (x.getLsbD i)) := (show cs = _ from HC.out) ▸ B2 |>.bat hlt
      have x3 : wr.cell? ⟨w.heap.size + 1, i, none⟩ = some (.bool (y.getLsbD i)) := (show ds = _ from HD.out) ▸ B3 |>.bat hlt
      have x5 := B5.bat hlt
      have f5 := B5.frozen
      have l5 := B5.lt
      have hsum := Lib.hid (BitVec.getLsbD_add hlt x y)
      have hcar := Lib.hid (BitVec.carry_succ i x y false)
      generalize hp : x.getLsbD i = p at x2
      generalize hq : y.getLsbD i = q at x3
      generalize hr : BitVec.carry i x y false = r
      have HP := Lib.hid (And.intro hp (And.intro hq hr))
      clear hp hq hr
      cases p <;> cases q <;> cases r
      all_goals
        go_wp2_with fail
        go_roundw
        case rel =>
          refine ⟨i + 1, by omega, by simp, ?_, by with_reducible repeat (first | exact Fr.refl _ _ | assumption | apply Fr.drew | apply Fr.drewN | apply Fr.alloc | (apply Fr.step; assumption; (intro _ h; (first | exact h | (focus (simp_all; done))))) | (apply Fr.setIn; (first | exact List.mem_cons_self | exact List.mem_cons_of_mem _ List.mem_cons_self | exact List.mem_cons_of_mem _ (List.mem_cons_of_mem _ List.mem_cons_self) | exact List.mem_cons_of_mem _ (List.mem_cons_of_mem _ (List.mem_cons_of_mem _ List.mem_cons_self)))) | (apply Fr.setNew; (first | omega | (simp; omega)))), B2.off (by omega), B3.off (by omega), B4.off (by omega), (Blk.bput B5).cast (bitC_congr fun j _ => ?_)⟩
          · rw [hcar.out, HP.out.1, HP.out.2.1, HP.out.2.2]; rfl
          · by_cases c : j = i
            · subst c; simp [addB, hsum.out, HP.out.1, HP.out.2.1, HP.out.2.2]
            · have : (j < i + 1) ↔ (j < i) := by omega
              simp [addB, this, c]
        case measure => simp [intOf]; omega
    · obtain rfl : i = 128 := by omega
      obtain ⟨c5, hc5⟩ : ∃ cs, IsBits cs (addB x y 128) := ⟨_, rfl⟩
      obtain ⟨c4, hc4⟩ : ∃ cs, IsBits cs (fun _ => false) := ⟨_, rfl⟩
      rw [← show c5 = _ from hc5] at B5
      rw [← show c4 = _ from hc4] at B4
      generalize BitVec.carry 128 x y false = r
      go_wp2_with (first
        | (refine wpList_loadB rfl (.tmp 6) rfl (w.heap.size + 1 + 1 + 1) rfl _ _ B5 hc5 ?_)
        | (refine wpList_storeB rfl (.tmp 4) (.tmp 34) rfl (w.heap.size + 1 + 1) _ _ _ _ rfl rfl B4 hc4 hc5 ?_
           intro w5 B6 F6))
      refine bodyPost_ret (results_bits2 rfl _ _ (w.heap.size + 1 + 1) _ _ rfl rfl B6 hc5) rfl ⟨⟨_, !r, ?_, rfl⟩, fr_new2 (by omega) F F6⟩
      exact hc5.cast fun j hj => by simp [addB, hj]
end Go.Proofs.Ytgddmkgmpibpgaa
