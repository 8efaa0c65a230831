/- The index of IDs: the methods, walked. -/
import Derived.Test.YtkimldeagndgjaaIdx
import Derived.Outline
namespace Go.Proofs.Ytkimldeagndgjaa
set_option linter.unusedVariables false
set_option linter.unusedSimpArgs false
open Go.RowKit Go.ChangeMaps

/-- The index in memory: bi the struct, bs the slots, bm the count; m says where each ID is, n how many there are. -/
structure IxI (w : World) (bi bs bm : Nat) (m : Int → Option Nat) (n : Nat) : Prop where
  i : Blk w bi 199 #[.map (some bs), .map (some bm)]
  s : ∃ l cl, MBlk w bs (List.map ent l).toArray cl ∧ l.length = n ∧ (l.map (·.1)).Nodup ∧ ∀ id s, m id = some s ↔ ∃ b, (id, s, b) ∈ l
  c : ∃ bo cm, MBlk w bm (cntE n bo) cm
  ne : bs ≠ bm
  small : n ≤ 1000

theorem IxI.look {w : World} {bi bs bm n : Nat} {m : Int → Option Nat} (h : IxI w bi bs bm m n) {W : World} (hf : Fr [] w W) (id : Int) :
    (Instr.lookup 196 (.map (some bs)) (.agg #[.int .i64 0, .int .i64 id]) true).run Try.prog W = .ok (.tuple #[.int .i64 ((m id).getD 0 : Nat), .bool (m id).isSome]) W := by
  obtain ⟨l, cl, hb, _, hnd, hm⟩ := h.s
  have e := lookS W bs l cl (hb.via hf (by simp)) id
  unfold keyV at e
  rw [e]
  cases hmi : m id with
  | none =>
    have hn : ∀ p ∈ l, p.1 ≠ id := by
      rintro ⟨a, s, b⟩ hp rfl
      have := (hm a s).2 ⟨b, hp⟩
      rw [hmi] at this; cases this
    rw [posE_none hn]; rfl
  | some s =>
    obtain ⟨b, hp⟩ := (hm id s).1 hmi
    obtain ⟨l1, l2, rfl⟩ := List.append_of_mem hp
    have hn : ∀ p ∈ l1, p.1 ≠ id := by
      intro p hp e
      simp only [List.map_append, List.map_cons, List.nodup_append, List.mem_map, List.mem_cons] at hnd
      exact hnd.2.2 p.1 ⟨p, hp, rfl⟩ id (.inl rfl) e
    rw [posE_some hn]; rfl
theorem IxI.fr {w W : World} {bi bs bm n : Nat} {m : Int → Option Nat} (h : IxI w bi bs bm m n) {S : List Nat} (hf : Fr S w W) (h1 : bi ∉ S) (h2 : bs ∉ S) (h3 : bm ∉ S) : IxI W bi bs bm m n := by
  obtain ⟨l, cl, hb, hr⟩ := h.s
  obtain ⟨bo, cm, hc⟩ := h.c
  exact ⟨Blk.via hf h1 h.i, ⟨l, cl, hb.via hf h2, hr⟩, ⟨bo, cm, hc.via hf h3⟩, h.ne, h.small⟩

theorem ixGet_any (w : World) (bi bs bm n : Nat) (m : Int → Option Nat) (h : IxI w bi bs bm m n) (id : Int) :
    Calls Try.prog 84 #[.pointer (some ⟨bi, 0, none⟩), .agg #[.int .i64 0, .int .i64 id]] w fun e w' => e = .returned (.tuple #[.int .i64 ((m id).getD 0 : Nat), .bool (m id).isSome]) ∧ Fr [] w w' := by
  go_enter Try.func84, Try.ntmps84
  go_wp2_with fail
  refine wp_name (fun W0 hW => ?_)
  have B1 := Blk.box0 hW
  have F0 : Fr [] w W0 := Fr.eqv hW (by with_reducible repeat (first | exact Fr.refl _ _ | assumption | apply Fr.drew | apply Fr.drewN | apply Fr.alloc | (apply Fr.step; assumption; (intro _ h; (first | exact h | (focus (simp_all; done))))) | (apply Fr.setIn; (first | exact List.mem_cons_self | exact List.mem_cons_of_mem _ List.mem_cons_self | exact List.mem_cons_of_mem _ (List.mem_cons_of_mem _ List.mem_cons_self) | exact List.mem_cons_of_mem _ (List.mem_cons_of_mem _ (List.mem_cons_of_mem _ List.mem_cons_self)))) | (apply Fr.setNew; (first | omega | (simp; omega)))))
  have H0 := h.fr F0 (by simp) (by simp) (by simp)
  have BI := H0.i
  clear hW
  refine wp_region_soft (by kernel_rfl) (by kernel_rfl) ?_; (repeat (refine wpQuiet_step (fun K hK => ?_); (first | ((fail); go_simp; refine hK _ ?_; clear hK K) | (apply soft_do; (rfl); (focus (intro W hC; (have q1 := (Blk.via hC (by simp) BI).cell; have q2 := (Blk.via hC (by simp) B1).cell; have q3 := H0.look hC id); go_simp; (first | (fail) | done | rfl | exact ⟨rfl, rfl⟩))); (go_simp; refine hK _ ?_; clear hK K)) | (apply soft_skip; (rfl); (go_simp; refine hK _ ?_; clear hK K))))); refine wpQuiet_nil ?_
  intro w1 F1
  go_wp2_with fail
  go_ret2
  exact ⟨rfl, F0.trans F1⟩

theorem ixGet_nil (w : World) (id : Int) :
    Calls Try.prog 84 #[.pointer none, .agg #[.int .i64 0, .int .i64 id]] w fun e w' => e = .returned (.tuple #[.int .i64 0, .bool false]) ∧ Fr [] w w' := by
  go_enter Try.func84, Try.ntmps84
  go_wp2_with fail
  go_ret2
  exact ⟨rfl, by with_reducible repeat (first | exact Fr.refl _ _ | assumption | apply Fr.drew | apply Fr.drewN | apply Fr.alloc | (apply Fr.step; assumption; (intro _ h; (first | exact h | (focus (simp_all; done))))) | (apply Fr.setIn; (first | exact List.mem_cons_self | exact List.mem_cons_of_mem _ List.mem_cons_self | exact List.mem_cons_of_mem _ (List.mem_cons_of_mem _ List.mem_cons_self) | exact List.mem_cons_of_mem _ (List.mem_cons_of_mem _ (List.mem_cons_of_mem _ List.mem_cons_self)))) | (apply Fr.setNew; (first | omega | (simp; omega))))⟩

theorem ixNew_any (w : World) : Calls Try.prog 80 #[] w fun e w' => e = .returned (.pointer (some ⟨w.heap.size + 2, 0, none⟩)) ∧ Fr [] w w' ∧ IxI w' (w.heap.size + 2) w.heap.size (w.heap.size + 1) (fun _ => none) 0 := by
  have hmk := fun t w => run_makeMap (P := Try.prog) t w
  go_enter Try.func80, Try.ntmps80
  go_wp2_with fail
  go_ret
  refine ⟨rfl, by with_reducible repeat (first | exact Fr.refl _ _ | assumption | apply Fr.drew | apply Fr.drewN | apply Fr.alloc | (apply Fr.step; assumption; (intro _ h; (first | exact h | (focus (simp_all; done))))) | (apply Fr.setIn; (first | exact List.mem_cons_self | exact List.mem_cons_of_mem _ List.mem_cons_self | exact List.mem_cons_of_mem _ (List.mem_cons_of_mem _ List.mem_cons_self) | exact List.mem_cons_of_mem _ (List.mem_cons_of_mem _ (List.mem_cons_of_mem _ List.mem_cons_self)))) | (apply Fr.setNew; (first | omega | (simp; omega)))), ?_, ⟨[], 0, ?_, rfl, by simp, by simp⟩, ⟨0, 0, ?_⟩, by omega, by omega⟩
  · with_reducible repeat (first | exact Blk.new _ _ _ | (apply Blk.newAt rfl; (first | (simp; done) | (simp; omega))) | assumption | exact Blk.new _ _ _ | apply Blk.drew | apply Blk.drewN | apply Blk.alloc | (apply Blk.off; (first | assumption | omega)) | (apply Blk.put; omega) | (apply Blk.put0; omega) | apply Blk.same)
  · unfold MBlk
    rw [Below.heap_alloc _ _ _ (by simp; omega), Below.heap_alloc _ _ _ (by simp)]
    exact heap_alloc_new _ _
  · unfold MBlk
    rw [Below.heap_alloc _ _ _ (by simp)]
    simpa [cntE] using heap_alloc_new (w.alloc (.map #[] 0)) (.map #[] 0)

def updm (m : Int → Option Nat) (id : Int) (s : Option Nat) : Int → Option Nat := fun j => if j = id then s else m j

set_option maxHeartbeats 1000000 in
theorem ixPut_new (w : World) (bi bs bm n : Nat) (m : Int → Option Nat) (h : IxI w bi bs bm m n) (id : Int) (s : Nat) (hid : m id = none) (hs : s ≤ 1000) (hn : n < 1000) :
    Calls Try.prog 89 #[.pointer (some ⟨bi, 0, none⟩), .agg #[.int .i64 0, .int .i64 id], .int .i64 s] w fun e w' => e = .returned (.bool true) ∧ Fr [bs, bm] w w' ∧ IxI w' bi bs bm (updm m id (some s)) (n + 1) := by
  go_enter Try.func89, Try.ntmps89
  go_wp2_with fail
  refine wp_name (fun W0 hW => ?_)
  have B1 := Blk.box0 hW
  have F0 : Fr [] w W0 := Fr.eqv hW (by with_reducible repeat (first | exact Fr.refl _ _ | assumption | apply Fr.drew | apply Fr.drewN | apply Fr.alloc | (apply Fr.step; assumption; (intro _ h; (first | exact h | (focus (simp_all; done))))) | (apply Fr.setIn; (first | exact List.mem_cons_self | exact List.mem_cons_of_mem _ List.mem_cons_self | exact List.mem_cons_of_mem _ (List.mem_cons_of_mem _ List.mem_cons_self) | exact List.mem_cons_of_mem _ (List.mem_cons_of_mem _ (List.mem_cons_of_mem _ List.mem_cons_self)))) | (apply Fr.setNew; (first | omega | (simp; omega)))))
  have H0 := h.fr F0 (by simp) (by simp) (by simp)
  have BI := H0.i
  clear hW
  refine wp_region_soft (by kernel_rfl) (by kernel_rfl) ?_; (repeat (refine wpQuiet_step (fun K hK => ?_); (first | ((fail); go_simp; refine hK _ ?_; clear hK K) | (apply soft_do; (rfl); (focus (intro W hC; (have q1 := (Blk.via hC (by simp) BI).cell; have q2 := (Blk.via hC (by simp) B1).cell; have q3 := H0.look hC id; rw [hid] at q3); go_simp; (first | (fail) | done | rfl | exact ⟨rfl, rfl⟩))); (go_simp; refine hK _ ?_; clear hK K)) | (apply soft_skip; (rfl); (go_simp; refine hK _ ?_; clear hK K))))); refine wpQuiet_nil ?_
  intro w1 F1
  have BI1 := Blk.via F1 (by simp) BI
  have B11 := Blk.via F1 (by simp) B1
  have H1 := H0.fr F1 (by simp) (by simp) (by simp)
  go_wp2_with fail
  obtain ⟨l, cl, hb, hln, hnd, hm⟩ := H1.s
  obtain ⟨bo, cm, hc⟩ := H1.c
  have hnl : ∀ p ∈ l, p.1 ≠ id := by
    rintro ⟨a, s, b⟩ hp rfl
    have := (hm a s).2 ⟨b, hp⟩
    rw [hid] at this; cases this
  refine u_region (S := fun w' => w'.cell? ⟨bi, 0, none⟩ = some (.map (some bs)) ∧ w'.cell? ⟨w.heap.size, 0, none⟩ = some (.int .i64 0) ∧ w'.cell? ⟨w.heap.size, 1, none⟩ = some (.int .i64 id)) 6 (by kernel_rfl) (by kernel_rfl) (by kernel_rfl) (by kernel_rfl) (by kernel_rfl) ⟨(BI1.drew.cell 0).trans rfl, (B11.drew.cell 0).trans rfl, (B11.drew.cell 1).trans rfl⟩ ?_
  (refine u_take 0 (v := ?_) rfl rfl (by kernel_rfl) (by kernel_rfl) (fun _ _ _ h => h) (Or.inl ⟨by rfl, ?_⟩) ?_; rotate_left; (focus (intro wz hSw; (try dsimp only at hSw); go_simp; (try with_reducible rfl))); (try simp only [Act.put, List.getElem_toArray, List.getElem_cons_succ, List.getElem_cons_zero, List.setIfInBounds_toArray, List.set_cons_zero, List.set_cons_succ]))
  (refine u_take 1 (v := ?_) rfl rfl (by kernel_rfl) (by kernel_rfl) (fun _ _ _ h => h) (Or.inl ⟨by rfl, ?_⟩) ?_; rotate_left; (focus (intro wz hSw; (try dsimp only at hSw); go_simp; (try with_reducible rfl))); (try simp only [Act.put, List.getElem_toArray, List.getElem_cons_succ, List.getElem_cons_zero, List.setIfInBounds_toArray, List.set_cons_zero, List.set_cons_succ]))
  (refine u_take 2 (v := ?_) rfl rfl (by kernel_rfl) (by kernel_rfl) (fun _ _ _ h => h) (Or.inl ⟨by rfl, ?_⟩) ?_; rotate_left; (focus (intro wz hSw; (try dsimp only at hSw); go_simp; (try with_reducible rfl))); (try simp only [Act.put, List.getElem_toArray, List.getElem_cons_succ, List.getElem_cons_zero, List.setIfInBounds_toArray, List.set_cons_zero, List.set_cons_succ]))
  (refine u_take 3 (v := ?_) rfl rfl (by kernel_rfl) (by kernel_rfl) (fun _ _ _ h => h) (Or.inl ⟨by rfl, ?_⟩) ?_; rotate_left; (focus (intro wz hSw; (try dsimp only at hSw); go_simp; (try with_reducible rfl))); (try simp only [Act.put, List.getElem_toArray, List.getElem_cons_succ, List.getElem_cons_zero, List.setIfInBounds_toArray, List.set_cons_zero, List.set_cons_succ]))
  (refine u_take 4 (v := ?_) rfl rfl (by kernel_rfl) (by kernel_rfl) (fun _ _ _ h => h) (Or.inl ⟨by rfl, ?_⟩) ?_; rotate_left; (focus (intro wz hSw; (try dsimp only at hSw); go_simp; (try with_reducible rfl))); (try simp only [Act.put, List.getElem_toArray, List.getElem_cons_succ, List.getElem_cons_zero, List.setIfInBounds_toArray, List.set_cons_zero, List.set_cons_succ]))
  (refine u_take 5 (v := ?_) rfl rfl (by kernel_rfl) (by kernel_rfl) (fun _ _ _ h => h) (Or.inl ⟨by rfl, ?_⟩) ?_; rotate_left; (focus (intro wz hSw; (try dsimp only at hSw); go_simp; (try with_reducible rfl))); (try simp only [Act.put, List.getElem_toArray, List.getElem_cons_succ, List.getElem_cons_zero, List.setIfInBounds_toArray, List.set_cons_zero, List.set_cons_succ]))
  refine u_last (by kernel_rfl) rfl (by kernel_rfl) ?_
  refine wpList_update rfl _ (.tmp 24) (.tmp 25) (.tmp 26) rfl (.map (some bs)) (keyV id) (.int .i64 s) rfl rfl rfl (updS w1.drew bs l cl hb id s hnl) ?_
  have hb1 : MBlk w1.drew bs _ cl := hb
  have M2 := hb1.set (List.map ent (l ++ [(id, s, cl)])).toArray (cl + 1)
  have F2 : Fr [bs] w1 _ := ((Fr.refl [] w1).drew.mono (by simp)).trans (hb1.fr (.map (List.map ent (l ++ [(id, s, cl)])).toArray (cl + 1)))
  generalize setBlock w1.drew bs _ = w2 at M2 F2 ⊢
  have n1 : bi ≠ bs := fun e => hb.ne BI1 e.symm
  have n2 : w.heap.size ≠ bs := fun e => hb.ne B11 e.symm
  have BI2 := Blk.via F2 (by simpa using n1) BI1
  have B12 := Blk.via F2 (by simpa using n2) B11
  have C2 : MBlk w2 bm _ cm := hc.via F2 (by simpa using H1.ne.symm)
  have hF02 : Fr [bs] w w2 := ((F0.trans F1).mono (by simp)).trans F2
  clear BI1 B11 hb hb1 hc H1 BI B1 H0 F0 F1 F2
  refine wpList_nil ?_
  go_wp2_with fail
  have hwr : IntKind.i64.wrap ((n : Int) + 1) = ((n + 1 : Nat) : Int) := by
    rw [IntWalk.i64_in _ (by omega)]; simp
  refine u_region (S := fun w' => w'.cell? ⟨bi, 1, none⟩ = some (.map (some bm)) ∧ w'.cell? ⟨w.heap.size, 0, none⟩ = some (.int .i64 0) ∧ (Instr.lookup 197 (.map (some bm)) (.int .i64 0) false).run Try.prog w' = .ok (.int .i64 n) w') 8 (by kernel_rfl) (by kernel_rfl) (by kernel_rfl) (by kernel_rfl) (by kernel_rfl) ⟨(BI2.drew.cell 1).trans rfl, (B12.drew.cell 0).trans rfl, lookC w2.drew bm n bo cm C2⟩ ?_
  (refine u_take 0 (v := ?_) rfl rfl (by kernel_rfl) (by kernel_rfl) (fun _ _ _ h => h) (Or.inl ⟨by rfl, ?_⟩) ?_; rotate_left; (focus (intro wz hSw; (try dsimp only at hSw); go_simp; (try with_reducible rfl))); (try simp only [Act.put, List.getElem_toArray, List.getElem_cons_succ, List.getElem_cons_zero, List.setIfInBounds_toArray, List.set_cons_zero, List.set_cons_succ]))
  (refine u_take 1 (v := ?_) rfl rfl (by kernel_rfl) (by kernel_rfl) (fun _ _ _ h => h) (Or.inl ⟨by rfl, ?_⟩) ?_; rotate_left; (focus (intro wz hSw; (try dsimp only at hSw); go_simp; (try with_reducible rfl))); (try simp only [Act.put, List.getElem_toArray, List.getElem_cons_succ, List.getElem_cons_zero, List.setIfInBounds_toArray, List.set_cons_zero, List.set_cons_succ]))
  (refine u_take 2 (v := ?_) rfl rfl (by kernel_rfl) (by kernel_rfl) (fun _ _ _ h => h) (Or.inl ⟨by rfl, ?_⟩) ?_; rotate_left; (focus (intro wz hSw; (try dsimp only at hSw); go_simp; (try with_reducible rfl))); (try simp only [Act.put, List.getElem_toArray, List.getElem_cons_succ, List.getElem_cons_zero, List.setIfInBounds_toArray, List.set_cons_zero, List.set_cons_succ]))
  (refine u_take 3 (v := ?_) rfl rfl (by kernel_rfl) (by kernel_rfl) (fun _ _ _ h => h) (Or.inl ⟨by rfl, ?_⟩) ?_; rotate_left; (focus (intro wz hSw; (try dsimp only at hSw); go_simp; (try with_reducible rfl))); (try simp only [Act.put, List.getElem_toArray, List.getElem_cons_succ, List.getElem_cons_zero, List.setIfInBounds_toArray, List.set_cons_zero, List.set_cons_succ]))
  (refine u_take 4 (v := ?_) rfl rfl (by kernel_rfl) (by kernel_rfl) (fun _ _ _ h => h) (Or.inl ⟨by rfl, ?_⟩) ?_; rotate_left; (focus (intro wz hSw; (try dsimp only at hSw); go_simp; (try with_reducible rfl))); (try simp only [Act.put, List.getElem_toArray, List.getElem_cons_succ, List.getElem_cons_zero, List.setIfInBounds_toArray, List.set_cons_zero, List.set_cons_succ]))
  (refine u_take 5 (v := ?_) rfl rfl (by kernel_rfl) (by kernel_rfl) (fun _ _ _ h => h) (Or.inl ⟨by rfl, ?_⟩) ?_; rotate_left; (focus (intro wz hSw; (try dsimp only at hSw); go_simp; (try with_reducible rfl))); (try simp only [Act.put, List.getElem_toArray, List.getElem_cons_succ, List.getElem_cons_zero, List.setIfInBounds_toArray, List.set_cons_zero, List.set_cons_succ]))
  (refine u_take 6 (v := ?_) rfl rfl (by kernel_rfl) (by kernel_rfl) (fun _ _ _ h => h) (Or.inl ⟨by rfl, ?_⟩) ?_; rotate_left; (focus (intro wz hSw; (try dsimp only at hSw); go_simp; (try with_reducible rfl))); (try simp only [Act.put, List.getElem_toArray, List.getElem_cons_succ, List.getElem_cons_zero, List.setIfInBounds_toArray, List.set_cons_zero, List.set_cons_succ]))
  (refine u_take 7 (v := ?_) rfl rfl (by kernel_rfl) (by kernel_rfl) (fun _ _ _ h => h) (Or.inl ⟨by rfl, ?_⟩) ?_; rotate_left; (focus (intro wz hSw; (try dsimp only at hSw); go_simp; (try with_reducible rfl))); (try simp only [Act.put, List.getElem_toArray, List.getElem_cons_succ, List.getElem_cons_zero, List.setIfInBounds_toArray, List.set_cons_zero, List.set_cons_succ]))
  refine u_last (by kernel_rfl) rfl (by kernel_rfl) ?_
  obtain ⟨bo', cm', hup⟩ := updC w2.drew bm n bo cm C2 (n + 1) (by omega)
  refine wpList_update rfl _ (.tmp 30) (.tmp 32) (.tmp 34) rfl (.map (some bm)) (.int .i64 0) (.int .i64 (n + 1 : Nat)) rfl rfl rfl hup ?_
  have C2' : MBlk w2.drew bm _ cm := C2
  have M3 := C2'.set (cntE (n + 1) bo') cm'
  have F3 : Fr [bm] w2 _ := ((Fr.refl [] w2).drew.mono (by simp)).trans (C2'.fr (.map (cntE (n + 1) bo') cm'))
  generalize setBlock w2.drew bm _ = w3 at M3 F3 ⊢
  have n3 : bi ≠ bm := fun e => C2.ne BI2 e.symm
  have BI3 := Blk.via F3 (by simpa using n3) BI2
  have M3' := M2.via F3 (by simpa using h.ne)
  have hF03 : Fr [bs, bm] w w3 := (hF02.mono (by simp)).trans (F3.mono (by simp))
  clear hup C2 C2' BI2 B12 F3 hF02 M2
  refine wpList_nil ?_
  go_wp2_with fail
  go_ret
  refine ⟨rfl, hF03, BI3, ⟨_, _, M3', ?_, ?_, ?_⟩, ⟨_, _, M3⟩, h.ne, by omega⟩
  · simp [hln]
  · simp only [List.map_append, List.map_cons, List.map_nil, List.nodup_append]
    refine ⟨hnd, by simp, ?_⟩
    intro a ha b hb
    simp only [List.mem_map] at ha
    obtain ⟨p, hp, rfl⟩ := ha
    simp only [List.mem_singleton] at hb
    rw [hb]; exact hnl p hp
  · intro j t
    unfold updm
    by_cases e : j = id
    · subst e
      rw [if_pos rfl]
      constructor
      · intro e2
        injection e2 with e2
        exact ⟨cl, by simp [e2]⟩
      · rintro ⟨b, hb⟩
        rcases List.mem_append.1 hb with hb | hb
        · exact absurd rfl (hnl _ hb)
        · simp at hb; rw [hb.1]
    · rw [if_neg e, hm j t]
      constructor
      · rintro ⟨b, hb⟩; exact ⟨b, by simp [hb]⟩
      · rintro ⟨b, hb⟩
        rcases List.mem_append.1 hb with hb | hb
        · exact ⟨b, hb⟩
        · simp at hb; exact absurd hb.1 e
end Go.Proofs.Ytkimldeagndgjaa
