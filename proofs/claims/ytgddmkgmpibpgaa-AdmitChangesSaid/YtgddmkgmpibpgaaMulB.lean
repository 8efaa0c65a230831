/- The document's product of 128 bits, and its halves, walked. -/
import Derived.Test.YtgddmkgmpibpgaaMulA
import Derived.Test.YtgddmkgmpibpgaaWaits
import Derived.Outline
namespace Go.Proofs.Ytgddmkgmpibpgaa
set_option linter.unusedVariables false
set_option linter.unusedSimpArgs false
open Go.RowKit

theorem exec_load_row {P : Program} {a : Act} {o : Oper} {w : World} (ty : TypeId) (x : Operand) (g : Nat) (t : TypeId) (cs : Array Value) (d : TypeDesc) (ho : o.op = .load ty x)
    (hx : a.eval x = .pointer (some ⟨g, 0, none⟩)) (B : Blk w g t cs) (hu : P.underlying ty = some d) (hd : (match d with | .struct _ | .array _ _ => true | _ => false) = true) (hi : (P.info? ty).map (·.size) = some cs.size) : (execOp a.eval o).run P w = .ok (.value (.agg cs)) w := by
  unfold execOp
  simp only [ho, hx, Instr.loadAt, Instr.sureAddr, Sem.run_bind, Sem.run_pure, Result.andThen_ok, run_loadVar_row w g t ty cs (0, 0) d B hu hd hi]

theorem step_storeB {ops : Array Oper} {o : Oper} {a : Act} {w : World} {K : Act → World → Prop} {Q : Exit → Act → World → Prop} {E : Prop} (hgd : o.guard = none) (x y : Operand) (ho : o.op = .store 161 x y)
    (g : Nat) (old cs : Array Value) (f f' : Nat → Bool) (hx : a.eval x = .pointer (some ⟨g, 0, none⟩)) (hy : a.eval y = .agg cs) (B : Blk w g 161 old) (h1 : IsBits old f) (h2 : IsBits cs f')
    (h : ∀ w', Blk w' g 161 cs → Fr [g] w w' → K (a.put o.dst undef) w') : if Region.wanted o (yielded ops a.tmps) = true then Oper.wp Try.prog o a w K Q else E := by
  rw [if_pos (by simp [Region.wanted, hgd])]
  exact wp_store_row _ x y ho g _ hx hy _ _ B (by rw [h2.size]; exact info_bits) (by rw [h1.size, h2.size]) (by rw [show cs = _ from h2]; exact bitC_one _)
    (h _ (setRow_heap w g _ _ _ _ B) ⟨rfl, rfl, rfl, by simp [World.setRow], fun k _ hk => setRow_other w g k _ (fun e => hk (by simp [e]))⟩)
theorem mod_succ (b i : Nat) : b % 2 ^ (i + 1) = b % 2 ^ i + if b.testBit i then 2 ^ i else 0 := by
  have h := Nat.mod_mul (x := b) (a := 2 ^ i) (b := 2)
  rw [← Nat.pow_succ] at h
  rw [h, Nat.testBit_eq_decide_div_mod_eq]
  rcases Nat.mod_two_eq_zero_or_one (b / 2 ^ i) with c | c
  · rw [c]; simp
  · rw [c]; simp
/-- One round's sum. -/
theorem mul_step (a b i : Nat) (h : b.testBit i = true) : BitVec.ofNat 128 (a * (b % 2 ^ i)) + (BitVec.ofNat 128 a <<< i) = BitVec.ofNat 128 (a * (b % 2 ^ (i + 1))) := by
  apply BitVec.eq_of_toNat_eq
  simp only [BitVec.toNat_add, BitVec.toNat_shiftLeft, BitVec.toNat_ofNat, Nat.shiftLeft_eq]
  rw [mod_succ b i, h, if_pos rfl, Nat.mul_add]
  simp [Nat.add_mod, Nat.mul_mod]

set_option maxHeartbeats 2000000 in
set_option maxRecDepth 100000 in
theorem refMulBits_any (w : World) (a b : Nat) (ha : a < 2 ^ 64) (hb : b < 2 ^ 64) :
    Calls Try.prog 121 #[.int .u64 (a : Int), .int .u64 (b : Int)] w (GivesB (BitVec.ofNat 128 (a * b)) w) := by
  have HA := Lib.hid ha
  have HB := Lib.hid hb
  have b0 : (0 : Int) ≤ (b : Int) := by omega
  have b1 : (b : Int) < 18446744073709551616 := by omega
  clear ha hb
  go_enter Try.func121, Try.ntmps121
  go_wp2_with fail
  refine (refOf_any _ a HA.out).mono ?_
  rintro e w1 ⟨⟨cx, hcx, rfl⟩, F1⟩
  have HX := Lib.hid hcx
  have sx := hcx.size
  rw [zero_bits] at F1
  have B4 := Blk.via F1 (by simp) ((Blk.new w 161 (bitC (fun _ => false))).alloc _)
  have B5 := Blk.via F1 (by simp) (Blk.newAt (w := w.alloc (.cells (bitC (fun _ => false)) 161)) (g := w.heap.size + 1) (t := 161) (cs := bitC (fun _ => false)) rfl (by simp))
  have F1' : Fr [] w w1 := (((Fr.refl [] w).alloc _).alloc _).trans F1
  clear hcx
  go_wp2_with (refine wpList_storeB rfl (.tmp 6) (.tmp 9) rfl w1.heap.size _ _ _ _ rfl rfl (Blk.new _ _ _) zero_bits HX.out ?_
               intro w2 B6 F2)
  have F2' : Fr [] w1 w2 := fr_new2 (Nat.le_refl _) ((Fr.refl [] w1).alloc _) F2
  have B4 := Blk.via F2' (by simp) B4
  have B5 := Blk.via F2' (by simp) B5
  have F3 := F1'.trans F2'
  have hx1 : w.heap.size + 1 < w1.heap.size := by have := F1.size; simp at this; omega
  clear F1 F1' F2 F2'
  go_loopw [7] (fun s7 wr => ∃ i : Nat, i ≤ 64 ∧ s7 = .int .i64 i ∧ Fr [] w wr ∧ Blk wr w.heap.size 161 (bitC (fun _ => false)) ∧ (∃ cs, IsBits cs (BitVec.ofNat 128 (a * (b % 2 ^ i))).getLsbD ∧ Blk wr (w.heap.size + 1) 161 cs) ∧ Blk wr w1.heap.size 161 cx) (fun s7 _ => 64 - (intOf s7).toNat)
  case atStart => exact ⟨0, by omega, rfl, F3, B4, ⟨_, (show IsBits _ (fun _ => false) from rfl).cast fun j hj => by simp [Nat.mod_one], B5⟩, B6⟩
  case round =>
    clear B4 B5 B6 F3
    obtain ⟨i, hi, rfl, F, B4, ⟨co, hco, B5⟩, B6⟩ := hrel
    have i0 : (0 : Int) ≤ (i : Int) := by omega
    have HO := Lib.hid hco
    clear hco
    by_cases hlt : i < 64
    · have i1 : (i : Int) < 64 := by omega
      have hbw := bitw (x := b) (b := i) HB.out
      by_cases hbit : b.testBit i = true
      · rw [hbit] at hbw
        have HBI := Lib.hid hbit
        clear hbit
        go_wp2_with fail
        have so := HO.out.size
        refine w_region (S := fun w' => Fr [] wr w') 8 (by kernel_rfl) (by kernel_rfl) (by kernel_rfl) (Fr.drew (Fr.refl _ _)) ?_
        (refine w_take 0 (v := .agg co) rfl rfl (by kernel_rfl) (by kernel_rfl) (by kernel_rfl) (fun _ _ _ h => h) (Or.inl ⟨by rfl, ?_⟩) ?_; (focus (intro wz hSw; exact exec_load_row _ (.tmp 5) (w.heap.size + 1) _ co _ rfl rfl (Blk.via hSw (by simp) B5) Try.underlying161 rfl (by rw [so]; exact info_bits))); (try simp only [Act.put, List.getElem_toArray, List.getElem_cons_succ, List.getElem_cons_zero, List.setIfInBounds_toArray, List.set_cons_zero, List.set_cons_succ]))
        (refine w_take 1 (v := .agg cx) rfl rfl (by kernel_rfl) (by kernel_rfl) (by kernel_rfl) (fun _ _ _ h => h) (Or.inl ⟨by rfl, ?_⟩) ?_; (focus (intro wz hSw; exact exec_load_row _ (.tmp 6) w1.heap.size _ cx _ rfl rfl (Blk.via hSw (by simp) B6) Try.underlying161 rfl (by rw [sx]; exact info_bits))); (try simp only [Act.put, List.getElem_toArray, List.getElem_cons_succ, List.getElem_cons_zero, List.setIfInBounds_toArray, List.set_cons_zero, List.set_cons_succ]))
        (refine w_take 2 (v := ?_) rfl rfl (by kernel_rfl) (by kernel_rfl) (by kernel_rfl) (fun _ _ _ h => h) (Or.inl ⟨by rfl, ?_⟩) ?_; rotate_left; (focus (intro wz hSw; (try dsimp only at hSw); go_simp; (try with_reducible rfl))); (try simp only [Act.put, List.getElem_toArray, List.getElem_cons_succ, List.getElem_cons_zero, List.setIfInBounds_toArray, List.set_cons_zero, List.set_cons_succ]))
        refine w_one 3 (by kernel_rfl) rfl (fun Kq hKq => ?_)
        go_simp
        refine (refLeft_any _ _ cx HX.out i hlt).mono ?_
        rintro e w5 ⟨⟨cl, hcl, rfl⟩, F5⟩
        have G5 : Fr [] wr w5 := (Fr.drew (Fr.refl [] wr)).trans F5
        refine hKq _ _ G5 ?_
        clear hKq Kq
        (try simp only [Act.put, List.getElem_toArray, List.getElem_cons_succ, List.getElem_cons_zero, List.setIfInBounds_toArray, List.set_cons_zero, List.set_cons_succ])
        refine w_one 4 (by kernel_rfl) rfl (fun Kq hKq => ?_)
        go_simp
        refine (refAdd_any _ _ _ co cl HO.out hcl).mono ?_
        rintro e w6 ⟨⟨cs, cb, hcs, rfl⟩, F6⟩
        have G6 := G5.trans F6
        refine hKq _ _ G6 ?_
        clear hKq Kq
        (try simp only [Act.put, List.getElem_toArray, List.getElem_cons_succ, List.getElem_cons_zero, List.setIfInBounds_toArray, List.set_cons_zero, List.set_cons_succ])
        (refine w_takeT 5 (v := ?_) rfl rfl (by kernel_rfl) (by kernel_rfl) (fun _ _ _ h => h) (Or.inl ⟨by rfl, ?_⟩) ?_; rotate_left; (focus (intro wz hSw; go_simp; (try with_reducible rfl))); (try simp only [Act.put, List.getElem_toArray, List.getElem_cons_succ, List.getElem_cons_zero, List.setIfInBounds_toArray, List.set_cons_zero, List.set_cons_succ]))
        (refine w_takeT 6 (v := ?_) rfl rfl (by kernel_rfl) (by kernel_rfl) (fun _ _ _ h => h) (Or.inl ⟨by rfl, ?_⟩) ?_; rotate_left; (focus (intro wz hSw; go_simp; (try with_reducible rfl))); (try simp only [Act.put, List.getElem_toArray, List.getElem_cons_succ, List.getElem_cons_zero, List.setIfInBounds_toArray, List.set_cons_zero, List.set_cons_succ]))
        (refine w_takeT 7 (v := ?_) rfl rfl (by kernel_rfl) (by kernel_rfl) (fun _ _ _ h => h) (Or.inl ⟨by rfl, ?_⟩) ?_; rotate_left; (focus (intro wz hSw; go_simp; (try with_reducible rfl))); (try simp only [Act.put, List.getElem_toArray, List.getElem_cons_succ, List.getElem_cons_zero, List.setIfInBounds_toArray, List.set_cons_zero, List.set_cons_succ]))
        refine w_store (by kernel_rfl) rfl (by kernel_rfl) (fun Kq hKq => ?_)
        have B7 := Blk.via G6 (by simp) B5
        have hres : IsBits cs (BitVec.ofNat 128 (a * (b % 2 ^ (i + 1)))).getLsbD := by rw [← mul_step a b i HBI.out]; exact hcs
        have HRES := Lib.hid hres
        have HCS := Lib.hid hcs
        clear hres hcs hcl hbw
        refine step_storeB rfl (.tmp 5) (.tmp 26) rfl (w.heap.size + 1) co cs _ _ rfl rfl B7 HO.out HCS.out ?_
        intro w7 B8 F8
        refine hKq _ _ ?_
        clear hKq Kq
        (try simp only [Act.put, List.getElem_toArray, List.getElem_cons_succ, List.getElem_cons_zero, List.setIfInBounds_toArray, List.set_cons_zero, List.set_cons_succ])
        refine w_done (by kernel_rfl) ?_
        go_wp2_with fail
        go_roundw
        case rel =>
          refine ⟨i + 1, by omega, by simp, fr_new2 (by omega) (F.trans G6) F8, Blk.via F8 (by simp) (Blk.via G6 (by simp) B4), ⟨cs, HRES.out, B8⟩, Blk.via F8 (by simp; omega) (Blk.via G6 (by simp) B6)⟩
        case measure => simp [intOf]; omega
      · have hbit : b.testBit i = false := by simpa using hbit
        rw [hbit] at hbw
        have HBI := Lib.hid hbit
        clear hbit
        go_wp2_with fail
        go_roundw
        case rel => exact ⟨i + 1, by omega, by simp, F, B4, ⟨co, by rw [mod_succ, HBI.out]; simpa using HO.out, B5⟩, B6⟩
        case measure => simp [intOf]; omega
    · obtain rfl : i = 64 := by omega
      have hz : IsBits (bitC (fun _ => false)) (fun _ => false) := rfl
      generalize bitC (fun _ => false) = c4 at B4 hz
      go_wp2_with (first
        | (refine wpList_loadB rfl (.tmp 5) rfl (w.heap.size + 1) rfl _ _ B5 HO.out ?_)
        | (refine wpList_storeB rfl (.tmp 4) (.tmp 28) rfl w.heap.size _ _ _ _ rfl rfl B4 hz HO.out ?_
           intro w5 B7 F6))
      refine bodyPost_ret (res_bits rfl _ _ w.heap.size _ _ rfl B7 HO.out) rfl ⟨⟨_, ?_, rfl⟩, fr_new2 (Nat.le_refl _) F F6⟩
      have := HO.out
      rwa [Nat.mod_eq_of_lt HB.out] at this
end Go.Proofs.Ytgddmkgmpibpgaa
