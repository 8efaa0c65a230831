/- The index of IDs: Drop, walked. -/
import Derived.Test.YtkimldeagndgjaaIdxB
import Derived.Outline
namespace Go.Proofs.Ytkimldeagndgjaa
set_option linter.unusedVariables false
set_option linter.unusedSimpArgs false
open Go.RowKit Go.ChangeMaps

theorem calls_named {P : Program} {f : FuncId} {args : Array Value} {w : World} {Q : Ending → World → Prop} (h : ∀ W, W = w → Calls P f args W Q) : Calls P f args w Q := h w rfl
theorem ixDrop_none (w : World) (bi bs bm n : Nat) (m : Int → Option Nat) (h : IxI w bi bs bm m n) (id : Int) (hid : m id = none) :
    Calls Try.prog 139 #[.pointer (some ⟨bi, 0, none⟩), .agg #[.int .i64 0, .int .i64 id]] w fun e w' => e = .returned (.bool false) ∧ Fr [] w w' := by
  go_enter Try.func139, Try.ntmps139
  go_wp2_with fail
  refine (ixGet_any _ bi bs bm n m (h.fr (S := []) (by with_reducible repeat (first | exact Fr.refl _ _ | assumption | apply Fr.drew | apply Fr.drewN | apply Fr.alloc | (apply Fr.step; assumption; (intro _ h; (first | exact h | (focus (simp_all; done))))) | (apply Fr.setIn; (first | exact List.mem_cons_self | exact List.mem_cons_of_mem _ List.mem_cons_self | exact List.mem_cons_of_mem _ (List.mem_cons_of_mem _ List.mem_cons_self) | exact List.mem_cons_of_mem _ (List.mem_cons_of_mem _ (List.mem_cons_of_mem _ List.mem_cons_self)))) | (apply Fr.setNew; (first | omega | (simp; omega))))) (by simp) (by simp) (by simp)) id).mono ?_
  rw [hid]
  rintro e w1 ⟨rfl, F1⟩
  go_wp2_with fail
  go_ret
  exact ⟨rfl, by with_reducible repeat (first | exact Fr.refl _ _ | assumption | apply Fr.drew | apply Fr.drewN | apply Fr.alloc | (apply Fr.step; assumption; (intro _ h; (first | exact h | (focus (simp_all; done))))) | (apply Fr.setIn; (first | exact List.mem_cons_self | exact List.mem_cons_of_mem _ List.mem_cons_self | exact List.mem_cons_of_mem _ (List.mem_cons_of_mem _ List.mem_cons_self) | exact List.mem_cons_of_mem _ (List.mem_cons_of_mem _ (List.mem_cons_of_mem _ List.mem_cons_self)))) | (apply Fr.setNew; (first | omega | (simp; omega))))⟩

theorem pairs_split {l1 l2 : List Ent} {id : Int} {s b : Nat} (hnd : ((l1 ++ (id, s, b) :: l2).map (·.1)).Nodup) : (∀ p ∈ l1, p.1 ≠ id) ∧ (∀ p ∈ l2, p.1 ≠ id) ∧ ((l1 ++ l2).map (·.1)).Nodup := by
  simp only [List.map_append, List.map_cons, List.nodup_append, List.mem_map, List.mem_cons, List.nodup_cons] at hnd ⊢
  refine ⟨fun p hp e => hnd.2.2 p.1 ⟨p, hp, rfl⟩ id (.inl rfl) e, fun p hp e => hnd.2.1.1 ⟨p, hp, e⟩, hnd.1, hnd.2.1.2, ?_⟩
  intro a ha b hb
  exact hnd.2.2 a ha b (.inr hb)

set_option maxHeartbeats 1000000 in
theorem ixDrop_has (w : World) (bi bs bm n : Nat) (m : Int → Option Nat) (h : IxI w bi bs bm m n) (id : Int) (s : Nat) (hid : m id = some s) :
    Calls Try.prog 139 #[.pointer (some ⟨bi, 0, none⟩), .agg #[.int .i64 0, .int .i64 id]] w fun e w' => e = .returned (.bool true) ∧ Fr [bs, bm] w w' ∧ IxI w' bi bs bm (updm m id none) (n - 1) ∧ 1 ≤ n := by
  go_enter Try.func139, Try.ntmps139
  go_wp2_with fail
  refine calls_named (fun W0 hW => ?_)
  have B1 := Blk.box0 hW
  have F0 : Fr [] w W0 := Fr.eqv hW (by with_reducible repeat (first | exact Fr.refl _ _ | assumption | apply Fr.drew | apply Fr.drewN | apply Fr.alloc | (apply Fr.step; assumption; (intro _ h; (first | exact h | (focus (simp_all; done))))) | (apply Fr.setIn; (first | exact List.mem_cons_self | exact List.mem_cons_of_mem _ List.mem_cons_self | exact List.mem_cons_of_mem _ (List.mem_cons_of_mem _ List.mem_cons_self) | exact List.mem_cons_of_mem _ (List.mem_cons_of_mem _ (List.mem_cons_of_mem _ List.mem_cons_self)))) | (apply Fr.setNew; (first | omega | (simp; omega)))))
  have H0 := h.fr F0 (by simp) (by simp) (by simp)
  clear hW
  refine (ixGet_any _ bi bs bm n m H0 id).mono ?_
  rw [hid]
  rintro e w1 ⟨rfl, F1⟩
  have BI1 := Blk.via F1 (by simp) H0.i
  have B11 := Blk.via F1 (by simp) B1
  have H1 := H0.fr F1 (by simp) (by simp) (by simp)
  go_wp2_with fail
  obtain ⟨l, cl, hb, hln, hnd, hm⟩ := H1.s
  obtain ⟨bo, cm, hc⟩ := H1.c
  obtain ⟨b, hp⟩ := (hm id s).1 hid
  obtain ⟨l1, l2, rfl⟩ := List.append_of_mem hp
  obtain ⟨d1, d2, d3⟩ := pairs_split hnd
  have hn0 : 1 ≤ n := by rw [← hln]; simp; omega
  have HL := Lib.hid (show (l1 ++ l2).length = n - 1 by rw [← hln]; simp)
  clear hln
  have hsmall := h.small
  refine u_region (S := fun w' => w'.cell? ⟨bi, 0, none⟩ = some (.map (some bs)) ∧ w'.cell? ⟨w.heap.size, 0, none⟩ = some (.int .i64 0) ∧ w'.cell? ⟨w.heap.size, 1, none⟩ = some (.int .i64 id)) 5 (by kernel_rfl) (by kernel_rfl) (by kernel_rfl) (by kernel_rfl) (by kernel_rfl) ⟨(BI1.drew.cell 0).trans rfl, (B11.drew.cell 0).trans rfl, (B11.drew.cell 1).trans rfl⟩ ?_
  (refine u_take 0 (v := ?_) rfl rfl (by kernel_rfl) (by kernel_rfl) (fun _ _ _ h => h) (Or.inl ⟨by rfl, ?_⟩) ?_; rotate_left; (focus (intro wz hSw; (try dsimp only at hSw); go_simp; (try with_reducible rfl))); (try simp only [Act.put, List.getElem_toArray, List.getElem_cons_succ, List.getElem_cons_zero, List.setIfInBounds_toArray, List.set_cons_zero, List.set_cons_succ]))
  (refine u_take 1 (v := ?_) rfl rfl (by kernel_rfl) (by kernel_rfl) (fun _ _ _ h => h) (Or.inl ⟨by rfl, ?_⟩) ?_; rotate_left; (focus (intro wz hSw; (try dsimp only at hSw); go_simp; (try with_reducible rfl))); (try simp only [Act.put, List.getElem_toArray, List.getElem_cons_succ, List.getElem_cons_zero, List.setIfInBounds_toArray, List.set_cons_zero, List.set_cons_succ]))
  (refine u_take 2 (v := ?_) rfl rfl (by kernel_rfl) (by kernel_rfl) (fun _ _ _ h => h) (Or.inl ⟨by rfl, ?_⟩) ?_; rotate_left; (focus (intro wz hSw; (try dsimp only at hSw); go_simp; (try with_reducible rfl))); (try simp only [Act.put, List.getElem_toArray, List.getElem_cons_succ, List.getElem_cons_zero, List.setIfInBounds_toArray, List.set_cons_zero, List.set_cons_succ]))
  (refine u_take 3 (v := ?_) rfl rfl (by kernel_rfl) (by kernel_rfl) (fun _ _ _ h => h) (Or.inl ⟨by rfl, ?_⟩) ?_; rotate_left; (focus (intro wz hSw; (try dsimp only at hSw); go_simp; (try with_reducible rfl))); (try simp only [Act.put, List.getElem_toArray, List.getElem_cons_succ, List.getElem_cons_zero, List.setIfInBounds_toArray, List.set_cons_zero, List.set_cons_succ]))
  (refine u_take 4 (v := ?_) rfl rfl (by kernel_rfl) (by kernel_rfl) (fun _ _ _ h => h) (Or.inl ⟨by rfl, ?_⟩) ?_; rotate_left; (focus (intro wz hSw; (try dsimp only at hSw); go_simp; (try with_reducible rfl))); (try simp only [Act.put, List.getElem_toArray, List.getElem_cons_succ, List.getElem_cons_zero, List.setIfInBounds_toArray, List.set_cons_zero, List.set_cons_succ]))
  refine u_last (by kernel_rfl) rfl (by kernel_rfl) ?_
  refine wpList_delete rfl (.tmp 18) (.tmp 19) _ _ rfl (.map (some bs)) (keyV id) rfl rfl (delS w1.drew bs l1 l2 cl id s b hb d1 _) ?_
  have hb1 : MBlk w1.drew bs _ cl := hb
  have M2 := hb1.set (List.map ent (l1 ++ l2)).toArray cl
  have F2 : Fr [bs] w1 _ := ((Fr.refl [] w1).drew.mono (by simp)).trans (hb1.fr (.map (List.map ent (l1 ++ l2)).toArray cl))
  generalize setBlock w1.drew bs _ = w2 at M2 F2 ⊢
  have n1 : bi ≠ bs := fun e => hb.ne BI1 e.symm
  have n2 : w.heap.size ≠ bs := fun e => hb.ne B11 e.symm
  have BI2 := Blk.via F2 (by simpa using n1) BI1
  have B12 := Blk.via F2 (by simpa using n2) B11
  have C2 : MBlk w2 bm _ cm := hc.via F2 (by simpa using H1.ne.symm)
  have hF02 : Fr [bs] w w2 := ((F0.trans F1).mono (by simp)).trans F2
  clear BI1 B11 hb hb1 hc H1 B1 H0 F0 F1 F2
  refine wpList_nil ?_
  go_wp2_with fail
  have hwr : IntKind.i64.wrap ((n : Int) - 1) = ((n - 1 : Nat) : Int) := by
    rw [IntWalk.i64_in _ (by omega)]; omega
  refine u_region (S := fun w' => w'.cell? ⟨bi, 1, none⟩ = some (.map (some bm)) ∧ w'.cell? ⟨w.heap.size, 0, none⟩ = some (.int .i64 0) ∧ (Instr.lookup 197 (.map (some bm)) (.int .i64 0) false).run Try.prog w' = .ok (.int .i64 n) w') 8 (by kernel_rfl) (by kernel_rfl) (by kernel_rfl) (by kernel_rfl) (by kernel_rfl) ⟨(BI2.drew.cell 1).trans rfl, (B12.drew.cell 0).trans rfl, lookC w2.drew bm n bo cm C2⟩ ?_
  (refine u_take 0 (v := ?_) rfl rfl (by kernel_rfl) (by kernel_rfl) (fun _ _ _ h => h) (Or.inl ⟨by rfl, ?_⟩) ?_; rotate_left; (focus (intro wz hSw; (try dsimp only at hSw); go_simp; (try with_reducible rfl))); (try simp only [Act.put, List.getElem_toArray, List.getElem_cons_succ, List.getElem_cons_zero, List.setIfInBounds_toArray, List.set_cons_zero, List.set_cons_succ]))
  (refine u_take 1 (v := ?_) rfl rfl (by kernel_rfl) (by kernel_rfl) (fun _ _ _ h => h) (Or.inl ⟨by rfl, ?_⟩) ?_; rotate_left; (focus (intro wz hSw; (try dsimp only at hSw); go_simp; (try with_reducible rfl))); (try simp only [Act.put, List.getElem_toArray, List.getElem_cons_succ, List.getElem_cons_zero, List.setIfInBounds_toArray, List.set_cons_zero, List.set_cons_succ]))
  (refine u_take 2 (v := ?_) rfl rfl (by kernel_rfl) (by kernel_rfl) (fun _ _ _ h => h) (Or.inl ⟨by rfl, ?_⟩) ?_; rotate_left; (focus (intro wz hSw; (try dsimp only at hSw); go_simp; (try with_reducible rfl))); (try simp only [Act.put, List.getElem_toArray, List.getElem_cons_succ, List.getElem_cons_zero, List.setIfInBounds_toArray, List.set_cons_zero, List.set_cons_succ]))
  (refine u_take 3 (v := ?_) rfl rfl (by kernel_rfl) (by kernel_rfl) (fun _ _ _ h => h) (Or.inl ⟨by rfl, ?_⟩) ?_; rotate_left; (focus (intro wz hSw; (try dsimp only at hSw); go_simp; (try with_reducible rfl))); (try simp only [Act.put, List.getElem_toArray, List.getElem_cons_succ, List.getElem_cons_zero, List.setIfInBounds_toArray, List.set_cons_zero, List.set_cons_succ]))
  (refine u_take 4 (v := ?_) rfl rfl (by kernel_rfl) (by kernel_rfl) (fun _ _ _ h => h) (Or.inl ⟨by rfl, ?_⟩) ?_; rotate_left; (focus (intro wz hSw; (try dsimp only at hSw); go_simp; (try with_reducible rfl))); (try simp only [Act.put, List.getElem_toArray, List.getElem_cons_succ, List.getElem_cons_zero, List.setIfInBounds_toArray, List.set_cons_zero, List.set_cons_succ]))
  (refine u_take 5 (v := ?_) rfl rfl (by kernel_rfl) (by kernel_rfl) (fun _ _ _ h => h) (Or.inl ⟨by rfl, ?_⟩) ?_; rotate_left; (focus (intro wz hSw; (try dsimp only at hSw); go_simp; (try with_reducible rfl))); (try simp only [Act.put, List.getElem_toArray, List.getElem_cons_succ, List.getElem_cons_zero, List.setIfInBounds_toArray, List.set_cons_zero, List.set_cons_succ]))
  (refine u_take 6 (v := ?_) rfl rfl (by kernel_rfl) (by kernel_rfl) (fun _ _ _ h => h) (Or.inl ⟨by rfl, ?_⟩) ?_; rotate_left; (focus (intro wz hSw; (try dsimp only at hSw); go_simp; (try with_reducible rfl))); (try simp only [Act.put, List.getElem_toArray, List.getElem_cons_succ, List.getElem_cons_zero, List.setIfInBounds_toArray, List.set_cons_zero, List.set_cons_succ]))
  (refine u_take 7 (v := ?_) rfl rfl (by kernel_rfl) (by kernel_rfl) (fun _ _ _ h => h) (Or.inl ⟨by rfl, ?_⟩) ?_; rotate_left; (focus (intro wz hSw; (try dsimp only at hSw); go_simp; (try with_reducible rfl))); (try simp only [Act.put, List.getElem_toArray, List.getElem_cons_succ, List.getElem_cons_zero, List.setIfInBounds_toArray, List.set_cons_zero, List.set_cons_succ]))
  refine u_last (by kernel_rfl) rfl (by kernel_rfl) ?_
  have C2' : MBlk w2.drew bm _ cm := C2
  have n3 : bi ≠ bm := fun e => C2.ne BI2 e.symm
  have n4 : w.heap.size ≠ bm := fun e => C2.ne B12 e.symm
  have fin : ∀ w' bo' cm', Fr [bs, bm] w w' → Blk w' bi 199 #[.map (some bs), .map (some bm)] → MBlk w' bs (List.map ent (l1 ++ l2)).toArray cl → MBlk w' bm (cntE (n - 1) bo') cm' → IxI w' bi bs bm (updm m id none) (n - 1) := by
    intro w' bo' cm' _ hi hs hc
    refine ⟨hi, ⟨_, _, hs, HL.out, d3, ?_⟩, ⟨_, _, hc⟩, h.ne, by omega⟩
    intro j t
    unfold updm
    by_cases e : j = id
    · subst e
      rw [if_pos rfl]
      constructor
      · intro e2; cases e2
      · rintro ⟨b, hb⟩
        rcases List.mem_append.1 hb with hb | hb
        · exact absurd rfl (d1 _ hb)
        · exact absurd rfl (d2 _ hb)
    · rw [if_neg e, hm j t]
      constructor
      · rintro ⟨b, hb⟩
        rcases List.mem_append.1 hb with hb | hb
        · exact ⟨b, by simp [hb]⟩
        · rcases List.mem_cons.1 hb with hb | hb
          · simp at hb; exact absurd hb.1 e
          · exact ⟨b, by simp [hb]⟩
      · rintro ⟨b, hb⟩
        rcases List.mem_append.1 hb with hb | hb
        · exact ⟨b, by simp [hb]⟩
        · exact ⟨b, by simp [hb]⟩
  rcases (show n = 1 ∨ (n - 1 ≠ 0) by omega) with e1 | e1
  · have e0 : ((n - 1 : Nat) : Int) = 0 := by omega
    rw [e0]
    refine wpList_update rfl _ (.tmp 23) (.tmp 25) (.tmp 27) rfl (.map (some bm)) (.int .i64 0) (.int .i64 0) rfl rfl rfl (updC0 w2.drew bm n bo cm C2 (by omega)) ?_
    have M3 := C2'.set #[⟨.int .i64 0, .int .i64 0, bo⟩] cm
    have F3 : Fr [bm] w2 _ := ((Fr.refl [] w2).drew.mono (by simp)).trans (C2'.fr (.map #[⟨.int .i64 0, .int .i64 0, bo⟩] cm))
    generalize setBlock w2.drew bm _ = w3 at M3 F3 ⊢
    have BI3 := Blk.via F3 (by simpa using n3) BI2
    have B13 := Blk.via F3 (by simpa using n4) B12
    have M3' := M2.via F3 (by simpa using h.ne)
    have hF03 : Fr [bs, bm] w w3 := (hF02.mono (by simp)).trans (F3.mono (by simp))
    clear C2 C2' BI2 B12 F3 hF02 M2
    refine wpList_nil ?_
    go_wp2_with fail
    refine wp_region_soft (by kernel_rfl) (by kernel_rfl) ?_; (repeat (refine wpQuiet_step (fun K hK => ?_); (first | ((fail); go_simp; refine hK _ ?_; clear hK K) | (apply soft_do; (rfl); (focus (intro W hC; (have q1 := (Blk.via hC (by simp) BI3).cell; have q2 := (Blk.via hC (by simp) B13).cell; have q3 := lookC0 _ bm bo cm (M3.via hC (by simp))); go_simp; (first | (fail) | done | rfl | exact ⟨rfl, rfl⟩))); (go_simp; refine hK _ ?_; clear hK K)) | (apply soft_skip; (rfl); (go_simp; refine hK _ ?_; clear hK K))))); refine wpQuiet_nil ?_
    intro w4 F4
    have BI4 := Blk.via F4 (by simp) BI3
    have B14 := Blk.via F4 (by simp) B13
    have M4 := M3.via F4 (by simp)
    have M4' := M3'.via F4 (by simp)
    have hF04 : Fr [bs, bm] w w4 := hF03.trans (F4.mono (by simp))
    clear BI3 B13 M3 M3' F4 hF03
    go_wp2_with fail
    refine u_region (S := fun w' => w'.cell? ⟨bi, 1, none⟩ = some (.map (some bm)) ∧ w'.cell? ⟨w.heap.size, 0, none⟩ = some (.int .i64 0)) 6 (by kernel_rfl) (by kernel_rfl) (by kernel_rfl) (by kernel_rfl) (by kernel_rfl) ⟨(BI4.drew.cell 1).trans rfl, (B14.drew.cell 0).trans rfl⟩ ?_
    (refine u_take 0 (v := ?_) rfl rfl (by kernel_rfl) (by kernel_rfl) (fun _ _ _ h => h) (Or.inl ⟨by rfl, ?_⟩) ?_; rotate_left; (focus (intro wz hSw; (try dsimp only at hSw); go_simp; (try with_reducible rfl))); (try simp only [Act.put, List.getElem_toArray, List.getElem_cons_succ, List.getElem_cons_zero, List.setIfInBounds_toArray, List.set_cons_zero, List.set_cons_succ]))
    (refine u_take 1 (v := ?_) rfl rfl (by kernel_rfl) (by kernel_rfl) (fun _ _ _ h => h) (Or.inl ⟨by rfl, ?_⟩) ?_; rotate_left; (focus (intro wz hSw; (try dsimp only at hSw); go_simp; (try with_reducible rfl))); (try simp only [Act.put, List.getElem_toArray, List.getElem_cons_succ, List.getElem_cons_zero, List.setIfInBounds_toArray, List.set_cons_zero, List.set_cons_succ]))
    (refine u_take 2 (v := ?_) rfl rfl (by kernel_rfl) (by kernel_rfl) (fun _ _ _ h => h) (Or.inl ⟨by rfl, ?_⟩) ?_; rotate_left; (focus (intro wz hSw; (try dsimp only at hSw); go_simp; (try with_reducible rfl))); (try simp only [Act.put, List.getElem_toArray, List.getElem_cons_succ, List.getElem_cons_zero, List.setIfInBounds_toArray, List.set_cons_zero, List.set_cons_succ]))
    (refine u_take 3 (v := ?_) rfl rfl (by kernel_rfl) (by kernel_rfl) (fun _ _ _ h => h) (Or.inl ⟨by rfl, ?_⟩) ?_; rotate_left; (focus (intro wz hSw; (try dsimp only at hSw); go_simp; (try with_reducible rfl))); (try simp only [Act.put, List.getElem_toArray, List.getElem_cons_succ, List.getElem_cons_zero, List.setIfInBounds_toArray, List.set_cons_zero, List.set_cons_succ]))
    (refine u_take 4 (v := ?_) rfl rfl (by kernel_rfl) (by kernel_rfl) (fun _ _ _ h => h) (Or.inl ⟨by rfl, ?_⟩) ?_; rotate_left; (focus (intro wz hSw; (try dsimp only at hSw); go_simp; (try with_reducible rfl))); (try simp only [Act.put, List.getElem_toArray, List.getElem_cons_succ, List.getElem_cons_zero, List.setIfInBounds_toArray, List.set_cons_zero, List.set_cons_succ]))
    (refine u_take 5 (v := ?_) rfl rfl (by kernel_rfl) (by kernel_rfl) (fun _ _ _ h => h) (Or.inl ⟨by rfl, ?_⟩) ?_; rotate_left; (focus (intro wz hSw; (try dsimp only at hSw); go_simp; (try with_reducible rfl))); (try simp only [Act.put, List.getElem_toArray, List.getElem_cons_succ, List.getElem_cons_zero, List.setIfInBounds_toArray, List.set_cons_zero, List.set_cons_succ]))
    refine u_last (by kernel_rfl) rfl (by kernel_rfl) ?_
    refine wpList_delete rfl (.tmp 39) (.tmp 41) _ _ rfl (.map (some bm)) (.int .i64 0) rfl rfl (delC0 w4.drew bm bo cm M4 _) ?_
    have M4d : MBlk w4.drew bm _ cm := M4
    have M5 := M4d.set (cntE 0 0) cm
    have F5 : Fr [bm] w4 _ := ((Fr.refl [] w4).drew.mono (by simp)).trans (M4d.fr (.map (cntE 0 0) cm))
    generalize setBlock w4.drew bm _ = w5 at M5 F5 ⊢
    have BI5 := Blk.via F5 (by simpa using n3) BI4
    have M5' := M4'.via F5 (by simpa using h.ne)
    have hF05 : Fr [bs, bm] w w5 := hF04.trans (F5.mono (by simp))
    clear BI4 B14 M4 M4' M4d F5 hF04
    refine wpList_nil ?_
    go_wp2_with fail
    go_ret
    refine ⟨rfl, hF05, fin w5 0 cm hF05 BI5 M5' ?_, by omega⟩
    rw [show n - 1 = 0 by omega]; exact M5
  · obtain ⟨bo', cm', hup⟩ := updC w2.drew bm n bo cm C2 (n - 1) e1
    refine wpList_update rfl _ (.tmp 23) (.tmp 25) (.tmp 27) rfl (.map (some bm)) (.int .i64 0) (.int .i64 (n - 1 : Nat)) rfl rfl rfl hup ?_
    have M3 := C2'.set (cntE (n - 1) bo') cm'
    have F3 : Fr [bm] w2 _ := ((Fr.refl [] w2).drew.mono (by simp)).trans (C2'.fr (.map (cntE (n - 1) bo') cm'))
    generalize setBlock w2.drew bm _ = w3 at M3 F3 ⊢
    have BI3 := Blk.via F3 (by simpa using n3) BI2
    have B13 := Blk.via F3 (by simpa using n4) B12
    have M3' := M2.via F3 (by simpa using h.ne)
    have hF03 : Fr [bs, bm] w w3 := (hF02.mono (by simp)).trans (F3.mono (by simp))
    clear hup C2 C2' BI2 B12 F3 hF02 M2
    refine wpList_nil ?_
    go_wp2_with fail
    have e2 : (((n - 1 : Nat) : Int) == 0) = false := by simp; omega
    refine wp_region_soft (by kernel_rfl) (by kernel_rfl) ?_; (repeat (refine wpQuiet_step (fun K hK => ?_); (first | ((fail); go_simp; refine hK _ ?_; clear hK K) | (apply soft_do; (rfl); (focus (intro W hC; (have q1 := (Blk.via hC (by simp) BI3).cell; have q2 := (Blk.via hC (by simp) B13).cell; have q3 := lookC _ bm (n - 1) bo' cm' (M3.via hC (by simp))); go_simp; (first | (fail) | done | rfl | exact ⟨rfl, rfl⟩))); (go_simp; refine hK _ ?_; clear hK K)) | (apply soft_skip; (rfl); (go_simp; refine hK _ ?_; clear hK K))))); refine wpQuiet_nil ?_
    intro w4 F4
    have BI4 := Blk.via F4 (by simp) BI3
    have M4 := M3.via F4 (by simp)
    have M4' := M3'.via F4 (by simp)
    have hF04 : Fr [bs, bm] w w4 := hF03.trans (F4.mono (by simp))
    clear BI3 B13 M3 M3' F4 hF03
    go_wp2_with fail
    go_ret
    exact ⟨rfl, hF04, fin w4 bo' cm' hF04 BI4 M4' M4, by omega⟩
end Go.Proofs.Ytkimldeagndgjaa
