/- The law LadderSorts, walked at side 0. -/
import Derived.Test.YtgddmkgmpibpgaaLadN
namespace Go.Proofs.Ytgddmkgmpibpgaa
set_option linter.unusedVariables false
set_option linter.unusedSimpArgs false
open Go.RowKit Go.Shelf

set_option maxHeartbeats 4000000 in
set_option maxRecDepth 10000 in
theorem sorts_0 (w : World) (A1 : Option Addr) (n1 c1 : Nat) (P : Nat → Int) (hm1 : n1 ≤ 9223372036854775807) (t1 : ¬ (40 : Int) < (n1 : Int)) (n40 : n1 ≤ 40)
    (HP : Hid (∀ W, Fr [] w W → ∀ k, k < n1 → ∃ ab ao, A1 = some ⟨ab, ao, none⟩ ∧ W.cell? ⟨ab, ao + k, none⟩ = some (.int .i64 (P k)))) :
    Calls Try.prog 11 #[.int .i64 0, .slice A1 n1 c1] w fun e w' => e = .returned (.bool true) ∧ Below w.heap.size w w' := by
  have hm1' : (n1 : Int) ≤ 9223372036854775807 := by omega
  obtain ⟨ib, hi, hz0, hz1, hz2⟩ := info_parts info_bool
  have mk : ∀ w, (Instr.makeSlice 58 (.int .i64 40) (.int .i64 40)).run Try.prog w = .ok (.slice (some ⟨w.heap.size, 0, none⟩) 40 40) (w.alloc (.cells (row1 40 (fun _ => .bool false)) 4)) :=
    fun w => run_makeRow1 (P := Try.prog) Try.underlying58 hi hz0 hz1 rfl 40 (by rw [hz2]; omega) (by omega) w
  have MK := Lib.hid mk
  clear hi hz0 hz1 hz2 ib mk
  go_enter Try.func11, Try.ntmps11
  go_wp2_with fail
  refine (ladNew_yes _ 0 40 (.inl rfl) (by omega)).mono ?_
  rintro e w2 ⟨lp, hlp, rfl, G1, R1⟩
  have I2 : SInv w w2 lp 0 P 0 0 _ _ _ := ⟨LadI.empty R1, G1, hlp, by simp [Value.ownBlock], fun j hj => by omega, fun i hi => by omega, by omega⟩
  clear R1 G1
  go_wp2_with fail
  go_loopw [7] (fun s7 wr => ∃ k : Nat, k ≤ n1 ∧ s7 = .int .i64 k ∧ ∃ n v u f, SInv w wr lp 0 P k n v u f) (fun s7 _ => n1 - (intOf s7).toNat)
  case atStart => exact ⟨0, by omega, rfl, _, _, _, _, I2⟩
  case round =>
    obtain ⟨k, hk, rfl, n, v, u, f, S⟩ := hrel
    clear I2
    by_cases hlt : k < n1
    · have i0 : (0 : Int) ≤ (k : Int) := by omega
      have i1 : (k : Int) < (n1 : Int) := by omega
      obtain ⟨ab, ao, rfl, x0⟩ := HP.out wr S.fr k hlt
      by_cases hz : P k < 1 ∨ 4611686018427387904 < P k
      · rcases (show P k < 1 ∨ (¬ P k < 1 ∧ 4611686018427387904 < P k) by omega) with z1 | ⟨z1, z2⟩
        all_goals
          go_wp2_with fail
          refine (ladAlive_any _).mono ?_
          rintro e w3 ⟨rfl, hf⟩
          go_wp2_with fail
          go_ret
          exact ⟨rfl, (S.fr.trans hf).toBelow⟩
      · have z1 : ¬ P k < 1 := by omega
        have z2 : ¬ 4611686018427387904 < P k := by omega
        have HPut := Lib.hid (sorts_put w wr lp 0 P k n v u f S (by omega) (by omega))
        clear hz
        go_wp2_with fail
        refine HPut.out.mono ?_
        rintro e w3 ⟨q, n', v', u', f', rfl, S'⟩
        go_wp2_with fail
        go_roundw
        case rel => exact ⟨k + 1, by omega, by simp, _, _, _, _, S'⟩
        case measure => simp [intOf]; omega
    · obtain rfl : n1 = k := by omega
      have mk := MK.out
      clear hk hlt
      go_wp2_with fail
      clear mk
      refine wp_name (fun W2 hW2 => ?_)
      have T0 : TInv w W2 lp wr.heap.size 0 n 0 f v u := by
        rw [hW2]
        exact ⟨(S.i.fr (Fr.alloc (Fr.refl [] _) _) (by simp) (by simp)).cast rfl (funext fun j => by rw [Nat.zero_add]), S.fr.alloc _, S.own0, Blk.new _ _ _⟩
      have hcnt := Lib.hid S.cnt
      have hcov := Lib.hid S.cov
      have hinj := Lib.hid S.i.inj
      have hpin := Lib.hid S.i.price_inj
      have hsor := Lib.hid S.i.r.sorted
      have hlow := Lib.hid S.i.low
      have hord := Lib.hid S.i.ord
      have hn40 : n ≤ 40 := by have := S.nk; omega
      have hb0 := S.fr.size
      obtain ⟨bi, hbi⟩ : ∃ bi, bi = wr.heap.size := ⟨_, rfl⟩
      have hb1 : lp ≠ bi := by have := S.i.r.b.lt; omega
      rw [← hbi] at T0 hb0 ⊢
      clear hbi S hW2
      go_loopw [11, 12, 13] (fun s11 s12 s13 wr => ∃ i : Nat, i ≤ n ∧ s13 = .int .i64 i ∧ s12 = .int .i64 (sumN (fun j => cntP P n1 (f j).price) i : Nat) ∧ (∃ z : Int, s11 = .int .i64 z ∧ (0 < i → z = (f (i - 1)).price)) ∧ ∃ v u, TInv w wr lp bi 0 n i f v u) (fun _ _ s13 _ => 40 - (intOf s13).toNat)
      case atStart => exact ⟨0, by omega, rfl, rfl, ⟨0, rfl, fun h => by omega⟩, _, _, T0⟩
      case round =>
        clear T0
        obtain ⟨i, hin, rfl, rfl, ⟨z, rfl, hz⟩, v2, u2, T⟩ := hrel
        have HZ := Lib.hid hz
        clear hz
        obtain ⟨wo, rfl⟩ : ∃ wo : World, wo = wr := ⟨_, rfl⟩
        by_cases hlt : i < n
        · have i0 : (0 : Int) ≤ (i : Int) := by omega
          have i40 : (i : Int) < 40 := by omega
          have hbest := Lib.hid (best_yes wo lp 0 40 v2 u2 (n - i) _ T.ld.r (by omega))
          obtain ⟨c, hc⟩ : ∃ c, cntP P n1 (f i).price = c := ⟨_, rfl⟩
          have hc40 : c ≤ 40 := by have := cntP_le P n1 (f i).price; omega
          obtain ⟨ho, hq⟩ := hcnt.out i hlt
          rw [hc] at ho hq
          obtain ⟨qn, hqn⟩ : ∃ qn : Nat, (f i).queue = (qn : Int) := ⟨(f i).queue.toNat, by have := hlow.out i hlt; omega⟩
          have hq40 : qn < 40 := by have := hlow.out i hlt; omega
          have hc1 : 1 ≤ c := by have := hord.out i hlt; omega
          have hinn : innF f i qn = false := innF_no (fun j hj e => by have := hinj.out j i (by omega) hlt (by rw [e, hqn]); omega)
          have HC := Lib.hid hc
          have HO := Lib.hid (And.intro ho (And.intro hq hqn))
          have HN := Lib.hid hinn
          clear hc ho hq hqn hinn
          go_wp2_with fail
          refine hbest.out.mono ?_
          rintro e w3 ⟨rfl, G3⟩
          simp only [lvV, Nat.add_zero, HO.out.1, HO.out.2.1, HO.out.2.2]
          go_wp2_with fail
          refine wp_name (fun W4 hW4 => ?_)
          have X4 : Blk W4 w3.heap.size 85 #[.int .i64 (f i).price, .int .i64 (3 * (c : Int)), .int .i64 c, .int .i64 qn] := Blk.eqv hW4 (Blk.new _ _ _)
          have G4 : Fr [] wo W4 := Fr.eqv hW4 (by with_reducible repeat (first | exact Fr.refl _ _ | assumption | apply Fr.drew | apply Fr.drewN | apply Fr.alloc | (apply Fr.step; assumption; (intro _ h; (first | exact h | (focus (simp_all; done))))) | (apply Fr.setIn; (first | exact List.mem_cons_self | exact List.mem_cons_of_mem _ List.mem_cons_self | exact List.mem_cons_of_mem _ (List.mem_cons_of_mem _ List.mem_cons_self) | exact List.mem_cons_of_mem _ (List.mem_cons_of_mem _ (List.mem_cons_of_mem _ List.mem_cons_self)))) | (apply Fr.setNew; (first | omega | (simp; omega)))))
          have s3 := G3.size
          clear hW4
          have c0 : (0 : Int) ≤ (c : Int) := by omega
          have cc : (c : Int) ≤ 40 := by omega
          have x4 : ∀ W, Fr [] W4 W → W.cell? ⟨w3.heap.size, 0, none⟩ = some (.int .i64 (f i).price) := fun W F => ((Blk.via F (by simp) X4).cell 0).trans rfl
          have HX4 := Lib.hid x4
          have HF4 := Lib.hid (T.fr.trans G4)
          clear x4
          go_loopw [16, 17] (fun s16 s17 wq => ∃ k : Nat, k ≤ n1 ∧ s17 = .int .i64 k ∧ s16 = .int .i64 (cntP P k (f i).price : Nat) ∧ Fr [] W4 wq) (fun _ s17 _ => n1 - (intOf s17).toNat)
          case atStart => exact ⟨0, by omega, rfl, rfl, Fr.refl _ _⟩
          case round =>
            obtain ⟨k, hk, rfl, rfl, G5⟩ := hrel
            have hle := cntP_le P k (f i).price
            have j1 : (cntP P k (f i).price : Int) ≤ 40 := by omega
            have j2 : (0 : Int) ≤ (cntP P k (f i).price : Int) := by omega
            by_cases hkn : k < n1
            · have k0 : (0 : Int) ≤ (k : Int) := by omega
              have k1 : (k : Int) < (n1 : Int) := by omega
              obtain ⟨ab, ao, rfl, x0⟩ := HP.out wr (HF4.out.trans G5) k hkn
              have x1 := HX4.out wr G5
              by_cases he : P k = (f i).price
              · have hb : (P k == (f i).price) = true := by simpa using he
                have hsc : cntP P (k + 1) (f i).price = cntP P k (f i).price + 1 := by simp [cntP, he]
                have HSC := Lib.hid hsc
                clear he hsc
                go_wp2_with fail
                go_quiet (fail)
                go_wp2_with fail
                go_roundw
                case rel => exact ⟨k + 1, by omega, by simp, by rw [HSC.out]; simp, by with_reducible repeat (first | exact Fr.refl _ _ | assumption | apply Fr.drew | apply Fr.drewN | apply Fr.alloc | (apply Fr.step; assumption; (intro _ h; (first | exact h | (focus (simp_all; done))))) | (apply Fr.setIn; (first | exact List.mem_cons_self | exact List.mem_cons_of_mem _ List.mem_cons_self | exact List.mem_cons_of_mem _ (List.mem_cons_of_mem _ List.mem_cons_self) | exact List.mem_cons_of_mem _ (List.mem_cons_of_mem _ (List.mem_cons_of_mem _ List.mem_cons_self)))) | (apply Fr.setNew; (first | omega | (simp; omega))))⟩
                case measure => simp [intOf]; omega
              · have hb : (P k == (f i).price) = false := by simpa using he
                have hsc : cntP P (k + 1) (f i).price = cntP P k (f i).price := by simp [cntP, he]
                have HSC := Lib.hid hsc
                clear he hsc
                go_wp2_with fail
                go_quiet (fail)
                go_wp2_with fail
                go_roundw
                case rel => exact ⟨k + 1, by omega, by simp, by rw [HSC.out], by with_reducible repeat (first | exact Fr.refl _ _ | assumption | apply Fr.drew | apply Fr.drewN | apply Fr.alloc | (apply Fr.step; assumption; (intro _ h; (first | exact h | (focus (simp_all; done))))) | (apply Fr.setIn; (first | exact List.mem_cons_self | exact List.mem_cons_of_mem _ List.mem_cons_self | exact List.mem_cons_of_mem _ (List.mem_cons_of_mem _ List.mem_cons_self) | exact List.mem_cons_of_mem _ (List.mem_cons_of_mem _ (List.mem_cons_of_mem _ List.mem_cons_self)))) | (apply Fr.setNew; (first | omega | (simp; omega))))⟩
                case measure => simp [intOf]; omega
            · obtain rfl : n1 = k := by omega
              rw [HC.out]
              clear j1 j2 hle hkn hk
              have X5 := Blk.via G5 (by simp) X4
              have B5 := Blk.via (G4.trans G5) (by simp) T.b
              have I5 := T.ld.fr (G4.trans G5) (by simp) (by simp)
              have F5 := HF4.out.trans G5
              have x5 := X5.cell
              have hx : wr.cell? ⟨bi, qn, none⟩ = some (.bool false) := by rw [B5.rat hq40, HN.out]
              have f5 := B5.frozen
              have lb := T.b.lt
              have llp := T.ld.r.b.lt
              have lown := Lib.hid T.ld.lts
              have hob := Lib.hid (T.ld.own_off T.b (by decide))
              have l5 := B5.lt
              have q0 : (0 : Int) ≤ (qn : Int) := by omega
              have q1 : ¬ (39 : Int) < (qn : Int) := by omega
              have q2 : (qn : Int) < 40 := by omega
              have q3 : ¬ (qn : Int) < 0 := by omega
              have hxb : ¬ w3.heap.size = bi := by omega
              have hbx : ¬ bi = w3.heap.size := by omega
              have hsum : sumN (fun j => cntP P n1 (f j).price) i ≤ i * 40 := sumN_le (fun j => by have := cntP_le P n1 (f j).price; omega) i
              obtain ⟨sm, hsm⟩ : ∃ sm, sumN (fun j => cntP P n1 (f j).price) i = sm := ⟨_, rfl⟩
              rw [hsm] at hsum ⊢
              have HSM := Lib.hid hsm
              have sm1 : (sm : Int) ≤ 1600 := by omega
              have sm0 : (0 : Int) ≤ (sm : Int) := by omega
              have OWN := Lib.hid T.own0
              clear hsum hsm T G4 G5 X4 G3
              by_cases hi0 : 0 < i
              all_goals
                first
                  | (have p0 : (0 : Int) < (i : Int) := by omega
                     have HBt := Lib.hid (fun W => refBetter_any W 0 z (f i).price (.inl rfl) (by have := hsor.out (i - 1) i (by omega) hlt; rw [HZ.out hi0]; exact this))
                     go_wp2_with fail
                     refine (HBt.out _).mono ?_
                     rintro e w6 ⟨rfl, rfl⟩
                     clear HBt
                     go_wp2_with fail
                     clear p0)
                  | (have p0 : ¬ (0 : Int) < (i : Int) := by omega
                     go_wp2_with fail
                     clear p0)
                clear hi0 HZ
                refine wp_name (fun W7 hW7 => ?_)
                have F7 : Fr [bi] wr W7 := by rw [hW7]; exact Fr.setIn List.mem_cons_self (Fr.refl _ _)
                have B7 : Blk W7 bi 4 (row1 40 (fun q => .bool (innF f (i + 1) q))) := by
                  rw [hW7]
                  refine B5.rput.cast (row1_congr fun q hq => ?_)
                  by_cases hqq : q = qn
                  · subst hqq
                    rw [if_pos rfl]
                    simp [innF, HO.out.2.2]
                  · rw [if_neg hqq]
                    have : ¬ ((qn : Int) = (q : Int)) := by omega
                    simp [innF, HO.out.2.2, this]
                have X7 := Blk.via F7 (by simpa using hxb) X5
                have G7 : Fr [] w W7 := fr_fresh F7 (by simpa using hb0) F5
                have I7 : LadI W7 lp 0 40 v2 u2 (n - i - 1 + 1) (updF (fun j => f (i + j)) 0 ⟨(f i).price, 3 * (c : Int) - 3 * ((0 : Nat) : Int), (c : Int) - ((0 : Nat) : Int), qn⟩) :=
                  (I5.fr F7 (by simpa using hb1) (fun g hg hm => hob.out (by rw [hg]; simpa using hm))).cast (by omega) (updF_eta (by
                    show f (i + 0) = _
                    rw [Nat.add_zero]
                    obtain ⟨e1, e2, e3⟩ := HO.out
                    cases hfi : f i with
                    | mk a b cc d => rw [hfi] at e1 e2 e3; simp at e1 e2 e3 ⊢; omega)).symm
                clear hW7 F7 B5 X5 x5 hx f5 I5 F5
                go_loopw [18] (fun s18 wr => ∃ k : Nat, k ≤ c ∧ s18 = .int .i64 k ∧ Fr [] w wr ∧ Blk wr bi 4 (row1 40 (fun q => .bool (innF f (i + 1) q))) ∧ Blk wr w3.heap.size 85 #[.int .i64 (f i).price, .int .i64 (3 * (c : Int)), .int .i64 c, .int .i64 qn] ∧
                  ∃ v u, v.ownBlock = v2.ownBlock ∧ (k < c → LadI wr lp 0 40 v u (n - i - 1 + 1) (updF (fun j => f (i + j)) 0 ⟨(f i).price, 3 * (c : Int) - 3 * (k : Int), (c : Int) - (k : Int), qn⟩)) ∧ (k = c → LadI wr lp 0 40 v u (n - i - 1) (fun j => f (i + (j + 1))))) (fun s18 _ => c - (intOf s18).toNat)
                case atStart => exact ⟨0, by omega, rfl, G7, B7, X7, v2, u2, rfl, fun _ => I7, fun e => by omega⟩
                case round =>
                  clear G7 B7 X7 I7
                  obtain ⟨k, hk, rfl, G8, B8, X8, v8, u8', hv8, hI, hJ⟩ := hrel
                  have k0 : (0 : Int) ≤ (k : Int) := by omega
                  have hI := Lib.hid hI
                  have hJ := Lib.hid hJ
                  have HV8 := Lib.hid hv8
                  clear hv8
                  by_cases hkc : k < c
                  · have k1 : (k : Int) < (c : Int) := by omega
                    have x8 := X8.cell
                    have HT := Lib.hid (sorts_take wr lp 0 (n - i - 1) v8 u8' _ _ (hI.out hkc) (by dsimp only; omega) (by dsimp only; omega))
                    go_wp2_with fail
                    refine HT.out.mono ?_
                    rintro e w9 ⟨rfl, F9, v9, u9', hv9, hA, hB⟩
                    have hne : ∀ x, x = bi ∨ x = w3.heap.size → x ∉ lp :: v8.ownBlock.toList := fun x hx hm => by
                      rcases List.mem_cons.1 hm with rfl | hm
                      · rcases hx with e | e <;> omega
                      · have h1 : v2.ownBlock = some x := by rw [← HV8.out]; simpa using hm
                        rcases hx with rfl | rfl
                        · exact hob.out h1
                        · have := lown.out _ h1; omega
                    have B9 := Blk.via F9 (hne _ (.inl rfl)) B8
                    have X9 := Blk.via F9 (hne _ (.inr rfl)) X8
                    have G9 : Fr [] w w9 := fr_fresh F9 (by
                      intro x hx
                      rcases List.mem_cons.1 hx with rfl | hx
                      · exact hlp
                      · exact OWN.out x (by rw [← HV8.out]; simpa using hx)) G8
                    have x9 := X9.cell
                    have HA := Lib.hid hA
                    have HB := Lib.hid hB
                    have HV9 := Lib.hid (hv9.trans HV8.out)
                    clear hA hB hv9 x8
                    go_wp2_with fail
                    go_roundw
                    case rel =>
                      refine ⟨k + 1, by omega, by simp, G9, B9, X9, v9, u9', HV9.out, fun hlt2 => (HA.out (by (try dsimp only); omega)).cast rfl ?_, fun e => HB.out (by (try dsimp only); omega)⟩
                      congr 1
                      simp only [Lvl.mk.injEq]
                      refine ⟨trivial, by omega, by omega, trivial⟩
                    case measure => simp [intOf]; omega
                  · obtain rfl : c = k := by omega
                    have HJ := hJ.out rfl
                    have OW := OWN.out
                    clear hI hJ
                    have TT : TInv w wr lp bi 0 n (i + 1) f v8 u8' := ⟨HJ.cast (by omega) (funext fun j => by rw [show i + (j + 1) = i + 1 + j by omega]), G8, fun g hg => OW g (by rw [← HV8.out]; exact hg), B8⟩
                    clear HJ OW
                    go_wp2_with fail
                    go_roundw
                    case rel => exact ⟨i + 1, by omega, by simp, by simp [sumN, HSM.out, HC.out], ⟨_, rfl, fun _ => by simp⟩, _, _, TT⟩
                    case measure => simp [intOf]; omega
        · obtain rfl : n = i := by omega
          have htot : sumN (fun j => cntP P n1 (f j).price) n = n1 := sum_cnt hpin.out n1 hcov.out
          rw [htot]
          have n0 : (0 : Int) ≤ (n1 : Int) := by omega
          have I0 := T.ld.cast (Nat.sub_self n) rfl
          have HF := Lib.hid T.fr
          have HL := Lib.hid (fun W (F : Fr [] wo W) => ladLen_any W lp 0 40 v2 u2 0 _ (I0.r.fr F (by simp) (by simp)))
          clear htot hlt T I0
          by_cases h40 : n < 40
          · have i40 : (n : Int) < 40 := by omega
            have HBe := Lib.hid (best_no wo (.pointer (some ⟨lp, 0, none⟩)) (fun w' F => HL.out w' F))
            go_wp2_with fail
            refine HBe.out.mono ?_
            rintro e w3 ⟨rfl, G3⟩
            simp only [lvV]
            go_wp2_with fail
            refine (HL.out _ (by with_reducible repeat (first | exact Fr.refl _ _ | assumption | apply Fr.drew | apply Fr.drewN | apply Fr.alloc | (apply Fr.step; assumption; (intro _ h; (first | exact h | (focus (simp_all; done))))) | (apply Fr.setIn; (first | exact List.mem_cons_self | exact List.mem_cons_of_mem _ List.mem_cons_self | exact List.mem_cons_of_mem _ (List.mem_cons_of_mem _ List.mem_cons_self) | exact List.mem_cons_of_mem _ (List.mem_cons_of_mem _ (List.mem_cons_of_mem _ List.mem_cons_self)))) | (apply Fr.setNew; (first | omega | (simp; omega)))))).mono ?_
            rintro e w4 ⟨rfl, rfl⟩
            go_wp2_with fail
            refine (ladAlive_any _).mono ?_
            rintro e w5 ⟨rfl, G5⟩
            go_wp2_with fail
            go_ret
            exact ⟨rfl, (HF.out.trans (((G3.alloc _)).trans G5)).toBelow⟩
          · have i40 : ¬ (n : Int) < 40 := by omega
            go_wp2_with fail
            refine (HL.out _ (by with_reducible repeat (first | exact Fr.refl _ _ | assumption | apply Fr.drew | apply Fr.drewN | apply Fr.alloc | (apply Fr.step; assumption; (intro _ h; (first | exact h | (focus (simp_all; done))))) | (apply Fr.setIn; (first | exact List.mem_cons_self | exact List.mem_cons_of_mem _ List.mem_cons_self | exact List.mem_cons_of_mem _ (List.mem_cons_of_mem _ List.mem_cons_self) | exact List.mem_cons_of_mem _ (List.mem_cons_of_mem _ (List.mem_cons_of_mem _ List.mem_cons_self)))) | (apply Fr.setNew; (first | omega | (simp; omega)))))).mono ?_
            rintro e w4 ⟨rfl, rfl⟩
            go_wp2_with fail
            refine (ladAlive_any _).mono ?_
            rintro e w5 ⟨rfl, G5⟩
            go_wp2_with fail
            go_ret
            exact ⟨rfl, (HF.out.trans G5).toBelow⟩

end Go.Proofs.Ytgddmkgmpibpgaa
