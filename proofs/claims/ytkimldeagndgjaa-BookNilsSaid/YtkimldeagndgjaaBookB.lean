/- A book: an order is added, walked. -/
import Derived.Test.YtkimldeagndgjaaBook
import Derived.Outline
namespace Go.Proofs.Ytkimldeagndgjaa
set_option linter.unusedVariables false
set_option linter.unusedSimpArgs false
open Go.RowKit

set_option maxHeartbeats 2000000 in
theorem bkAdd_core (w : World) (b ba bi bs bm lp bq bn be so : Nat) (v : Value) (N K n : Nat) (fl : List Nat) (m : Nat → Option Ord) (ix : Int → Option Nat) (T : List Nat) (ord : Nat → Ord) (s : Int) (o : Ord) (bc : Array Value)
    (hbk : Blk w b 139 bc) (hb0 : bc[0]? = some (.pointer (some ⟨ba, 0, none⟩))) (hb1 : bc[so]? = some (.pointer (some ⟨lp, 0, none⟩))) (hb2 : bc[so + 1]? = some (.pointer (some ⟨bq, 0, none⟩))) (hb5 : bc[5]? = some (.pointer (some ⟨bi, 0, none⟩)))
    (hof : ∀ W, Calls Try.prog 83 #[.pointer (some ⟨b, 0, none⟩), .int .i64 o.sd] W fun e W' => e = .returned (.pointer (some ⟨b, so, none⟩)) ∧ W = W')
    (hroom : ∀ W, Fr [] w W → Calls Try.prog 46 #[.pointer (some ⟨b, 0, none⟩), .int .i64 o.sd, .int .i64 o.pr] W fun e W' => e = .returned (.bool true) ∧ Fr [] W W')
    (ha : ArI w ba N (n :: fl) m) (hx : IxI w bi bs bm ix T.length) (hs : SideI w s lp v bq bn be N K T ord) (ht : Times N T ord) (hK : K ≤ 400) (hnT : n ∉ T) (ho : Good o) (hsd : o.sd = s) (hid : ix o.id = none) (hfit : FitsL s o.pr (T.map ord) K)
    (hnd : ([b, ba, bi, bs, bm] ++ sideD lp v bq bn be).Nodup) (hlt : ∀ x ∈ [b, ba, bi, bs, bm] ++ sideD lp v bq bn be, x < w.heap.size) :
    Calls Try.prog 23 #[.pointer (some ⟨b, 0, none⟩), .agg o.a] w fun e w' => e = .returned (.int .i64 0) ∧ ∃ v', Fr (ba :: bs :: bm :: sideD lp v bq bn be) w w' ∧ (v'.ownBlock = v.ownBlock ∨ ∃ g, v'.ownBlock = some g ∧ w.heap.size ≤ g) ∧
      ArI w' ba N fl (updO m n (some o)) ∧ IxI w' bi bs bm (updm ix o.id (some n)) (T.length + 1) ∧ SideI w' s lp v' bq bn be N K (T ++ [n]) (updO ord n o) := by
  have HK := Lib.hid hK
  have HT := Lib.hid ht
  have HG := Lib.hid ho
  have HS := Lib.hid hs
  have HA := Lib.hid ha
  have HX := Lib.hid hx
  have HF := Lib.hid hfit
  have HN := Lib.hid hnT
  have HSD := Lib.hid hsd
  have HID := Lib.hid hid
  have HND := Lib.hid hnd
  have HLT := Lib.hid hlt
  have HR := Lib.hid hroom
  have HO := Lib.hid hof
  have p1 : ¬ o.pr < 1 := by have := ho.pr; omega
  have p2 : ¬ 1099511627776 < o.pr := by have := ho.pr; omega
  have p3 : ¬ o.qt < 1 := by have := ho.qt; omega
  have p4 : ¬ 4294967296 < o.qt := by have := ho.qt; omega
  clear hK ht ho hs ha hx hfit hnT hsd hid hnd hroom hof hlt
  go_enter Try.func23, Try.ntmps23
  go_wp2_with fail
  refine calls_named (fun W0 hW => ?_)
  have B0 := Blk.box0 hW
  have F0 : Fr [] w W0 := Fr.eqv hW (by with_reducible repeat (first | exact Fr.refl _ _ | assumption | apply Fr.drew | apply Fr.drewN | apply Fr.alloc | (apply Fr.step; assumption; (intro _ h; (first | exact h | (focus (simp_all; done))))) | (apply Fr.setIn; (first | exact List.mem_cons_self | exact List.mem_cons_of_mem _ List.mem_cons_self | exact List.mem_cons_of_mem _ (List.mem_cons_of_mem _ List.mem_cons_self) | exact List.mem_cons_of_mem _ (List.mem_cons_of_mem _ (List.mem_cons_of_mem _ List.mem_cons_self)))) | (apply Fr.setNew; (first | omega | (simp; omega)))))
  have K0 := Blk.via F0 (by simp) hbk
  clear hW
  refine (HO.out W0).mono ?_
  rintro e w1 ⟨rfl, rfl⟩
  have q0 := B0.cell
  go_wp2_with fail
  have HGet : Hid (∀ W, Fr [] W0 W → Calls Try.prog 84 #[.pointer (some ⟨bi, 0, none⟩), .agg #[.int .i64 0, .int .i64 o.id]] W fun e w' => e = .returned (.tuple #[.int .i64 0, .bool false]) ∧ Fr [] W w') := Lib.hid fun W hf => by
    have := ixGet_any W bi bs bm T.length ix (HX.out.fr (F0.trans hf) (by simp) (by simp) (by simp)) o.id
    rw [HID.out] at this
    exact this
  clear q0
  refine wp_region_soft (by kernel_rfl) (by kernel_rfl) ?_; (repeat (refine wpQuiet_step (fun K hK => ?_); (first | ((fail); go_simp; refine hK _ ?_; clear hK K) | (apply soft_do; (rfl); (focus (intro W hC; (have q2 := (Blk.via hC (by simp) B0).cell; have q5 := ((Blk.via hC (by simp) K0).cell 5).trans hb5); go_simp; (first | (first | (go_at_call 85; refine (key_book _ _).mono ?_; rintro e w2 ⟨rfl, hf⟩; exact ⟨rfl, hC.trans hf⟩) | (go_at_call 84; refine (HGet.out _ hC).mono ?_; rintro e w2 ⟨rfl, hf⟩; exact ⟨rfl, hC.trans hf⟩)) | done | rfl | exact ⟨rfl, rfl⟩))); (go_simp; refine hK _ ?_; clear hK K)) | (apply soft_skip; (rfl); (go_simp; refine hK _ ?_; clear hK K))))); refine wpQuiet_nil ?_
  intro w2 F2
  have B2 := Blk.via F2 (by simp) B0
  have F02 := F0.trans F2
  have q2 := B2.cell
  clear B0 F2 F0 K0 HGet
  go_wp2_with fail
  refine (HR.out w2 F02).mono ?_
  rintro e w3 ⟨rfl, F3⟩
  have F03 := F02.trans F3
  have B3 := Blk.via F3 (by simp) B2
  have K3 := Blk.via F03 (by simp) hbk
  clear B2 F3 F02 q2
  go_wp2_with fail
  have nds := HND.out
  simp only [sideD, List.cons_append, List.nil_append, List.nodup_cons, List.mem_cons, not_or] at nds
  obtain ⟨⟨d1, d2, d3, d4, d5, d6, d7, d8, d9⟩, ⟨e2, e3, e4, e5, e6, e7, e8, e9⟩, ⟨f3, f4, f5, f6, f7, f8, f9⟩, ⟨g4, g5, g6, g7, g8, g9⟩, ⟨h5, h6, h7, h8, h9⟩, ⟨i6, i7, i8, i9⟩, ⟨j7, j8, j9⟩, ⟨k8, k9⟩, l9, _⟩ := nds
  have ltb := hbk.lt
  have ne0 : w.heap.size ≠ ba := by obtain ⟨_, _, hb, _⟩ := HA.out.b; have := Blk.lt hb; omega
  have A3 := HA.out.fr F03 (by simp)
  clear hbk
  refine u_region (S := fun w' => (∀ i, w'.cell? ⟨w.heap.size, i, none⟩ = (o.a)[i]?) ∧ w'.cell? ⟨b, 0, none⟩ = some (.pointer (some ⟨ba, 0, none⟩))) 10 (by kernel_rfl) (by kernel_rfl) (by kernel_rfl) (by kernel_rfl) (by kernel_rfl) ⟨fun i => B3.drew.cell i, (K3.drew.cell 0).trans hb0⟩ ?_
  (refine u_take 0 (v := ?_) rfl rfl (by kernel_rfl) (by kernel_rfl) (fun _ _ _ h => h) (Or.inl ⟨by rfl, ?_⟩) ?_; rotate_left; (focus (intro wz hSw; (try dsimp only at hSw); go_simp; (try with_reducible rfl))); (try simp only [Act.put, List.getElem_toArray, List.getElem_cons_succ, List.getElem_cons_zero, List.setIfInBounds_toArray, List.set_cons_zero, List.set_cons_succ]))
  (refine u_take 1 (v := ?_) rfl rfl (by kernel_rfl) (by kernel_rfl) (fun _ _ _ h => h) (Or.inl ⟨by rfl, ?_⟩) ?_; rotate_left; (focus (intro wz hSw; (try dsimp only at hSw); go_simp; (try with_reducible rfl))); (try simp only [Act.put, List.getElem_toArray, List.getElem_cons_succ, List.getElem_cons_zero, List.setIfInBounds_toArray, List.set_cons_zero, List.set_cons_succ]))
  (refine u_take 2 (v := ?_) rfl rfl (by kernel_rfl) (by kernel_rfl) (fun _ _ _ h => h) (Or.inl ⟨by rfl, ?_⟩) ?_; rotate_left; (focus (intro wz hSw; (try dsimp only at hSw); go_simp; (try with_reducible rfl))); (try simp only [Act.put, List.getElem_toArray, List.getElem_cons_succ, List.getElem_cons_zero, List.setIfInBounds_toArray, List.set_cons_zero, List.set_cons_succ]))
  (refine u_take 3 (v := ?_) rfl rfl (by kernel_rfl) (by kernel_rfl) (fun _ _ _ h => h) (Or.inl ⟨by rfl, ?_⟩) ?_; rotate_left; (focus (intro wz hSw; (try dsimp only at hSw); go_simp; (try with_reducible rfl))); (try simp only [Act.put, List.getElem_toArray, List.getElem_cons_succ, List.getElem_cons_zero, List.setIfInBounds_toArray, List.set_cons_zero, List.set_cons_succ]))
  (refine u_take 4 (v := ?_) rfl rfl (by kernel_rfl) (by kernel_rfl) (fun _ _ _ h => h) (Or.inl ⟨by rfl, ?_⟩) ?_; rotate_left; (focus (intro wz hSw; (try dsimp only at hSw); go_simp; (try with_reducible rfl))); (try simp only [Act.put, List.getElem_toArray, List.getElem_cons_succ, List.getElem_cons_zero, List.setIfInBounds_toArray, List.set_cons_zero, List.set_cons_succ]))
  refine u_one 5 (by kernel_rfl) rfl rfl (fun Kq hKq => ?_)
  go_simp
  refine (arTake_any w3.drew ba N n fl m (A3.fr (S := []) (Fr.drew (Fr.refl _ _)) (by simp)) o).mono ?_
  rintro e w4 ⟨rfl, F4, A4, hnN, _⟩
  have F34 : Fr [ba] w3 w4 := (Fr.drew (Fr.refl _ _)).trans F4
  have B4 := Blk.via F34 (by simpa using ne0) B3
  have K4 := Blk.via F34 (by simpa using d1) K3
  refine hKq _ _ ⟨fun i => B4.cell i, (K4.cell 0).trans hb0⟩ ?_
  clear hKq Kq
  (try simp only [Act.put, List.getElem_toArray, List.getElem_cons_succ, List.getElem_cons_zero, List.setIfInBounds_toArray, List.set_cons_zero, List.set_cons_succ])
  (refine u_take 6 (v := ?_) rfl rfl (by kernel_rfl) (by kernel_rfl) (fun _ _ _ h => h) (Or.inl ⟨by rfl, ?_⟩) ?_; rotate_left; (focus (intro wz hSw; (try dsimp only at hSw); go_simp; (try with_reducible rfl))); (try simp only [Act.put, List.getElem_toArray, List.getElem_cons_succ, List.getElem_cons_zero, List.setIfInBounds_toArray, List.set_cons_zero, List.set_cons_succ]))
  (refine u_take 7 (v := ?_) rfl rfl (by kernel_rfl) (by kernel_rfl) (fun _ _ _ h => h) (Or.inl ⟨by rfl, ?_⟩) ?_; rotate_left; (focus (intro wz hSw; (try dsimp only at hSw); go_simp; (try with_reducible rfl))); (try simp only [Act.put, List.getElem_toArray, List.getElem_cons_succ, List.getElem_cons_zero, List.setIfInBounds_toArray, List.set_cons_zero, List.set_cons_succ]))
  (refine u_take 8 (v := ?_) rfl rfl (by kernel_rfl) (by kernel_rfl) (fun _ _ _ h => h) (Or.inl ⟨by rfl, ?_⟩) ?_; rotate_left; (focus (intro wz hSw; (try dsimp only at hSw); go_simp; (try with_reducible rfl))); (try simp only [Act.put, List.getElem_toArray, List.getElem_cons_succ, List.getElem_cons_zero, List.setIfInBounds_toArray, List.set_cons_zero, List.set_cons_succ]))
  (refine u_take 9 (v := ?_) rfl rfl (by kernel_rfl) (by kernel_rfl) (fun _ _ _ h => h) (Or.inl ⟨by rfl, ?_⟩) ?_; rotate_left; (focus (intro wz hSw; (try dsimp only at hSw); go_simp; (try with_reducible rfl))); (try simp only [Act.put, List.getElem_toArray, List.getElem_cons_succ, List.getElem_cons_zero, List.setIfInBounds_toArray, List.set_cons_zero, List.set_cons_succ]))
  refine u_last (by kernel_rfl) rfl (by kernel_rfl) ?_
  have F04 : Fr [ba] w w4 := (F03.mono (by simp)).trans F34
  clear F4 F34 B3 K3 A3
  go_wp2_with fail
  have hS4 : SideI w4.drew s lp v bq bn be N K T ord := HS.out.fr (S := [ba]) F04.drew (by simpa using Ne.symm e5) (fun g hg hm => by
    obtain rfl : g = ba := by simpa using hm
    exact e9 (by simpa using hg)) (by simpa using Ne.symm e6) (by simpa using Ne.symm e7) (by simpa using Ne.symm e8)
  have nw : ∀ x, x ∈ [b, ba, bi, bs, bm] ++ sideD lp v bq bn be → w.heap.size ≠ x := fun x hx e => by have := HLT.out x hx; omega
  have HW := Lib.hid nw
  clear nw
  refine u_region (S := fun w' => (∀ i, w'.cell? ⟨w.heap.size, i, none⟩ = (o.a)[i]?) ∧ w'.cell? ⟨b, so, none⟩ = some (.pointer (some ⟨lp, 0, none⟩))) 13 (by kernel_rfl) (by kernel_rfl) (by kernel_rfl) (by kernel_rfl) (by kernel_rfl) ⟨fun i => B4.drew.cell i, (K4.drew.cell so).trans hb1⟩ ?_
  (refine u_take 0 (v := ?_) rfl rfl (by kernel_rfl) (by kernel_rfl) (fun _ _ _ h => h) (Or.inl ⟨by rfl, ?_⟩) ?_; rotate_left; (focus (intro wz hSw; (try dsimp only at hSw); go_simp; (try with_reducible rfl))); (try simp only [Act.put, List.getElem_toArray, List.getElem_cons_succ, List.getElem_cons_zero, List.setIfInBounds_toArray, List.set_cons_zero, List.set_cons_succ]))
  (refine u_take 1 (v := ?_) rfl rfl (by kernel_rfl) (by kernel_rfl) (fun _ _ _ h => h) (Or.inl ⟨by rfl, ?_⟩) ?_; rotate_left; (focus (intro wz hSw; (try dsimp only at hSw); go_simp; (try with_reducible rfl))); (try simp only [Act.put, List.getElem_toArray, List.getElem_cons_succ, List.getElem_cons_zero, List.setIfInBounds_toArray, List.set_cons_zero, List.set_cons_succ]))
  (refine u_take 2 (v := ?_) rfl rfl (by kernel_rfl) (by kernel_rfl) (fun _ _ _ h => h) (Or.inl ⟨by rfl, ?_⟩) ?_; rotate_left; (focus (intro wz hSw; (try dsimp only at hSw); go_simp; (try with_reducible rfl))); (try simp only [Act.put, List.getElem_toArray, List.getElem_cons_succ, List.getElem_cons_zero, List.setIfInBounds_toArray, List.set_cons_zero, List.set_cons_succ]))
  (refine u_take 3 (v := ?_) rfl rfl (by kernel_rfl) (by kernel_rfl) (fun _ _ _ h => h) (Or.inl ⟨by rfl, ?_⟩) ?_; rotate_left; (focus (intro wz hSw; (try dsimp only at hSw); go_simp; (try with_reducible rfl))); (try simp only [Act.put, List.getElem_toArray, List.getElem_cons_succ, List.getElem_cons_zero, List.setIfInBounds_toArray, List.set_cons_zero, List.set_cons_succ]))
  (refine u_take 4 (v := ?_) rfl rfl (by kernel_rfl) (by kernel_rfl) (fun _ _ _ h => h) (Or.inl ⟨by rfl, ?_⟩) ?_; rotate_left; (focus (intro wz hSw; (try dsimp only at hSw); go_simp; (try with_reducible rfl))); (try simp only [Act.put, List.getElem_toArray, List.getElem_cons_succ, List.getElem_cons_zero, List.setIfInBounds_toArray, List.set_cons_zero, List.set_cons_succ]))
  (refine u_take 5 (v := ?_) rfl rfl (by kernel_rfl) (by kernel_rfl) (fun _ _ _ h => h) (Or.inl ⟨by rfl, ?_⟩) ?_; rotate_left; (focus (intro wz hSw; (try dsimp only at hSw); go_simp; (try with_reducible rfl))); (try simp only [Act.put, List.getElem_toArray, List.getElem_cons_succ, List.getElem_cons_zero, List.setIfInBounds_toArray, List.set_cons_zero, List.set_cons_succ]))
  (refine u_take 6 (v := ?_) rfl rfl (by kernel_rfl) (by kernel_rfl) (fun _ _ _ h => h) (Or.inl ⟨by rfl, ?_⟩) ?_; rotate_left; (focus (intro wz hSw; (try dsimp only at hSw); go_simp; (try with_reducible rfl))); (try simp only [Act.put, List.getElem_toArray, List.getElem_cons_succ, List.getElem_cons_zero, List.setIfInBounds_toArray, List.set_cons_zero, List.set_cons_succ]))
  (refine u_take 7 (v := ?_) rfl rfl (by kernel_rfl) (by kernel_rfl) (fun _ _ _ h => h) (Or.inl ⟨by rfl, ?_⟩) ?_; rotate_left; (focus (intro wz hSw; (try dsimp only at hSw); go_simp; (try with_reducible rfl))); (try simp only [Act.put, List.getElem_toArray, List.getElem_cons_succ, List.getElem_cons_zero, List.setIfInBounds_toArray, List.set_cons_zero, List.set_cons_succ]))
  refine u_one 8 (by kernel_rfl) rfl rfl (fun Kq hKq => ?_)
  go_simp
  refine (side_put w4.drew s lp v bq bn be N K T ord hS4 HT.out HK.out n HN.out o HG.out HSD.out HF.out).mono ?_
  rintro e w5 ⟨k, v', rfl, F5, hv', Lq, HQ, hkK, hnot, hfin⟩
  have nS : w.heap.size ∉ lp :: v.ownBlock.toList := fun hm => HW.out w.heap.size (by
    rcases List.mem_cons.1 hm with e | e
    · rw [e]; simp [sideD]
    · simp only [sideD, List.mem_append, List.mem_cons]; exact .inr (.inr (.inr (.inr (.inr e))))) rfl
  have nb : b ∉ lp :: v.ownBlock.toList := fun hm => by
    rcases List.mem_cons.1 hm with e | e
    · exact d5 e
    · exact d9 e
  have B5 := Blk.via F5 nS B4.drew
  have K5 := Blk.via F5 nb K4.drew
  refine hKq _ _ ⟨fun i => B5.cell i, (K5.cell so).trans hb1⟩ ?_
  clear hKq Kq
  (try simp only [Act.put, List.getElem_toArray, List.getElem_cons_succ, List.getElem_cons_zero, List.setIfInBounds_toArray, List.set_cons_zero, List.set_cons_succ])
  (refine u_take 9 (v := ?_) rfl rfl (by kernel_rfl) (by kernel_rfl) (fun _ _ _ h => h) (Or.inl ⟨by rfl, ?_⟩) ?_; rotate_left; (focus (intro wz hSw; (try dsimp only at hSw); go_simp; (try with_reducible rfl))); (try simp only [Act.put, List.getElem_toArray, List.getElem_cons_succ, List.getElem_cons_zero, List.setIfInBounds_toArray, List.set_cons_zero, List.set_cons_succ]))
  (refine u_take 10 (v := ?_) rfl rfl (by kernel_rfl) (by kernel_rfl) (fun _ _ _ h => h) (Or.inl ⟨by rfl, ?_⟩) ?_; rotate_left; (focus (intro wz hSw; (try dsimp only at hSw); go_simp; (try with_reducible rfl))); (try simp only [Act.put, List.getElem_toArray, List.getElem_cons_succ, List.getElem_cons_zero, List.setIfInBounds_toArray, List.set_cons_zero, List.set_cons_succ]))
  (refine u_take 11 (v := ?_) rfl rfl (by kernel_rfl) (by kernel_rfl) (fun _ _ _ h => h) (Or.inl ⟨by rfl, ?_⟩) ?_; rotate_left; (focus (intro wz hSw; (try dsimp only at hSw); go_simp; (try with_reducible rfl))); (try simp only [Act.put, List.getElem_toArray, List.getElem_cons_succ, List.getElem_cons_zero, List.setIfInBounds_toArray, List.set_cons_zero, List.set_cons_succ]))
  (refine u_take 12 (v := ?_) rfl rfl (by kernel_rfl) (by kernel_rfl) (fun _ _ _ h => h) (Or.inl ⟨by rfl, ?_⟩) ?_; rotate_left; (focus (intro wz hSw; (try dsimp only at hSw); go_simp; (try with_reducible rfl))); (try simp only [Act.put, List.getElem_toArray, List.getElem_cons_succ, List.getElem_cons_zero, List.setIfInBounds_toArray, List.set_cons_zero, List.set_cons_succ]))
  refine u_last (by kernel_rfl) rfl (by kernel_rfl) ?_
  have F45 : Fr (lp :: v.ownBlock.toList) w4 w5 := (Fr.drew (Fr.refl _ _)).trans F5
  have HFIN := Lib.hid hfin
  have HNOT := Lib.hid hnot
  clear F5 B4 K4 hS4 hfin hnot
  have qq := (K5.cell (so + 1)).trans hb2
  go_wp2_with fail
  refine (push_yes HQ k n hkK hnN HNOT.out).mono ?_
  rintro e w6 ⟨rfl, F6, HQ6⟩
  have S6 := HFIN.out w6 F6 HQ6
  have B6 := Blk.via F6 (by simpa using ⟨HW.out bn (by simp [sideD]), HW.out be (by simp [sideD])⟩) B5
  have K6 := Blk.via F6 (by simpa using ⟨d7, d8⟩) K5
  clear qq B5 K5 HQ HQ6
  go_wp2_with fail
  refine u_region (S := fun w' => (∀ i, w'.cell? ⟨w.heap.size, i, none⟩ = (o.a)[i]?) ∧ w'.cell? ⟨b, 5, none⟩ = some (.pointer (some ⟨bi, 0, none⟩))) 8 (by kernel_rfl) (by kernel_rfl) (by kernel_rfl) (by kernel_rfl) (by kernel_rfl) ⟨fun i => B6.drew.cell i, (K6.drew.cell 5).trans hb5⟩ ?_
  (refine u_take 0 (v := ?_) rfl rfl (by kernel_rfl) (by kernel_rfl) (fun _ _ _ h => h) (Or.inl ⟨by rfl, ?_⟩) ?_; rotate_left; (focus (intro wz hSw; (try dsimp only at hSw); go_simp; (try with_reducible rfl))); (try simp only [Act.put, List.getElem_toArray, List.getElem_cons_succ, List.getElem_cons_zero, List.setIfInBounds_toArray, List.set_cons_zero, List.set_cons_succ]))
  (refine u_take 1 (v := ?_) rfl rfl (by kernel_rfl) (by kernel_rfl) (fun _ _ _ h => h) (Or.inl ⟨by rfl, ?_⟩) ?_; rotate_left; (focus (intro wz hSw; (try dsimp only at hSw); go_simp; (try with_reducible rfl))); (try simp only [Act.put, List.getElem_toArray, List.getElem_cons_succ, List.getElem_cons_zero, List.setIfInBounds_toArray, List.set_cons_zero, List.set_cons_succ]))
  (refine u_take 2 (v := ?_) rfl rfl (by kernel_rfl) (by kernel_rfl) (fun _ _ _ h => h) (Or.inl ⟨by rfl, ?_⟩) ?_; rotate_left; (focus (intro wz hSw; (try dsimp only at hSw); go_simp; (try with_reducible rfl))); (try simp only [Act.put, List.getElem_toArray, List.getElem_cons_succ, List.getElem_cons_zero, List.setIfInBounds_toArray, List.set_cons_zero, List.set_cons_succ]))
  (refine u_take 3 (v := ?_) rfl rfl (by kernel_rfl) (by kernel_rfl) (fun _ _ _ h => h) (Or.inl ⟨by rfl, ?_⟩) ?_; rotate_left; (focus (intro wz hSw; (try dsimp only at hSw); go_simp; (try with_reducible rfl))); (try simp only [Act.put, List.getElem_toArray, List.getElem_cons_succ, List.getElem_cons_zero, List.setIfInBounds_toArray, List.set_cons_zero, List.set_cons_succ]))
  (refine u_take 4 (v := ?_) rfl rfl (by kernel_rfl) (by kernel_rfl) (fun _ _ _ h => h) (Or.inl ⟨by rfl, ?_⟩) ?_; rotate_left; (focus (intro wz hSw; (try dsimp only at hSw); go_simp; (try with_reducible rfl))); (try simp only [Act.put, List.getElem_toArray, List.getElem_cons_succ, List.getElem_cons_zero, List.setIfInBounds_toArray, List.set_cons_zero, List.set_cons_succ]))
  (refine u_take 5 (v := ?_) rfl rfl (by kernel_rfl) (by kernel_rfl) (fun _ _ _ h => h) (Or.inl ⟨by rfl, ?_⟩) ?_; rotate_left; (focus (intro wz hSw; (try dsimp only at hSw); go_simp; (try with_reducible rfl))); (try simp only [Act.put, List.getElem_toArray, List.getElem_cons_succ, List.getElem_cons_zero, List.setIfInBounds_toArray, List.set_cons_zero, List.set_cons_succ]))
  (refine u_take 7 (v := ?_) rfl rfl (by kernel_rfl) (by kernel_rfl) (fun _ _ _ h => h) (Or.inl ⟨by rfl, ?_⟩) ?_; rotate_left; (focus (intro wz hSw; (try dsimp only at hSw); go_simp; (try with_reducible rfl))); (try simp only [Act.put, List.getElem_toArray, List.getElem_cons_succ, List.getElem_cons_zero, List.setIfInBounds_toArray, List.set_cons_zero, List.set_cons_succ]))
  refine u_one 6 (by kernel_rfl) rfl rfl (fun Kq hKq => ?_)
  go_simp
  refine (key_book w6.drew o.id).mono ?_
  rintro e w7 ⟨rfl, F7⟩
  have F67 : Fr [] w6 w7 := (Fr.drew (Fr.refl _ _)).trans F7
  have B7 := Blk.via F67 (by simp) B6
  have K7 := Blk.via F67 (by simp) K6
  refine hKq _ _ ⟨fun i => B7.cell i, (K7.cell 5).trans hb5⟩ ?_
  clear hKq Kq
  (try simp only [Act.put, List.getElem_toArray, List.getElem_cons_succ, List.getElem_cons_zero, List.setIfInBounds_toArray, List.set_cons_zero, List.set_cons_succ])
  refine u_last (by kernel_rfl) rfl (by kernel_rfl) ?_
  have F07 : Fr (ba :: bn :: be :: lp :: v.ownBlock.toList) w w7 := (((F04.mono (by simp)).trans (F45.mono fun x hx => List.mem_cons_of_mem _ (List.mem_cons_of_mem _ (List.mem_cons_of_mem _ hx)))).trans (F6.mono (by simp))).trans (F67.mono (by simp))
  have nF : ∀ x, x ≠ ba → x ≠ bn → x ≠ be → x ≠ lp → x ∉ v.ownBlock.toList → x ∉ ba :: bn :: be :: lp :: v.ownBlock.toList := fun x a1 a2 a3 a4 a5 hm => by
    simp only [List.mem_cons] at hm
    rcases hm with e | e | e | e | e
    · exact a1 e
    · exact a2 e
    · exact a3 e
    · exact a4 e
    · exact a5 e
  have X7 := HX.out.fr F07 (nF bi (Ne.symm e2) f7 f8 f5 f9) (nF bs (Ne.symm e3) g7 g8 g5 g9) (nF bm (Ne.symm e4) h7 h8 h5 h9)
  have hn500 : n ≤ 1000 := by have := A4.N2; omega
  have hT500 : T.length < 1000 := by have h1 := HT.out.len; have h2 := HT.out.N2; omega
  clear B6 K6 B7 K7
  go_wp2_with fail
  refine (ixPut_new w7 bi bs bm T.length ix X7 o.id n HID.out hn500 hT500).mono ?_
  rintro e w8 ⟨rfl, F8, X8⟩
  go_wp2_with fail
  go_ret
  have A8 : ArI w8 ba N fl (updO m n (some o)) := by
    have FF : Fr (bs :: bm :: bn :: be :: lp :: v.ownBlock.toList) w4 w8 := (((F45.mono fun x hx => List.mem_cons_of_mem _ (List.mem_cons_of_mem _ (List.mem_cons_of_mem _ (List.mem_cons_of_mem _ hx)))).trans (F6.mono (by simp))).trans (F67.mono (by simp))).trans (F8.mono (by simp))
    refine A4.fr FF fun hm => ?_
    simp only [List.mem_cons] at hm
    rcases hm with e | e | e | e | e | e
    · exact e3 e
    · exact e4 e
    · exact e7 e
    · exact e8 e
    · exact e5 e
    · exact e9 e
  have S8 : SideI w8 s lp v' bq bn be N K (T ++ [n]) (updO ord n o) := by
    have FF : Fr [bs, bm] w6 w8 := (F67.mono (by simp)).trans F8
    refine S6.fr FF (by simpa using ⟨Ne.symm g5, Ne.symm h5⟩) (fun g hg hm => ?_) (by simpa using ⟨Ne.symm g6, Ne.symm h6⟩) (by simpa using ⟨Ne.symm g7, Ne.symm h7⟩) (by simpa using ⟨Ne.symm g8, Ne.symm h8⟩)
    have hgl : g < w.heap.size := by
      rcases (show g = bs ∨ g = bm by simpa using hm) with rfl | rfl
      · exact HLT.out _ (by simp)
      · exact HLT.out _ (by simp)
    rcases hv' with e | ⟨g', e, hge⟩
    · rw [e] at hg
      rcases (show g = bs ∨ g = bm by simpa using hm) with rfl | rfl
      · exact g9 (by simpa using hg)
      · exact h9 (by simpa using hg)
    · rw [hg] at e; injection e with e
      have := F04.size
      have h2 : w4.heap.size ≤ g' := hge
      omega
  refine ⟨rfl, v', ?_, ?_, A8, X8, S8⟩
  · refine (F07.mono fun x hx => ?_).trans (F8.mono fun x hx => ?_)
    · simp only [List.mem_cons, sideD] at hx ⊢
      rcases hx with e | e | e | e | e <;> simp [e]
    · simp only [List.mem_cons, List.not_mem_nil, or_false] at hx
      rcases hx with e | e <;> simp [e]
  · rcases hv' with e | ⟨g', e, hge⟩
    · exact .inl e
    · have := F04.size
      have h2 : w4.heap.size ≤ g' := hge
      exact .inr ⟨g', e, by omega⟩
end Go.Proofs.Ytkimldeagndgjaa
