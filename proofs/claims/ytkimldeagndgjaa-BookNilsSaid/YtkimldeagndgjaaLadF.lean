/- The ladder: Put makes a new level. -/
import Derived.Test.YtkimldeagndgjaaLadE
import Derived.Outline
namespace Go.Proofs.Ytkimldeagndgjaa
set_option linter.unusedVariables false
set_option linter.unusedSimpArgs false
open Go.RowKit

theorem RowL.form {w : World} {v : Value} {n : Nat} {f : Nat → Lvl} (h : RowL w v n f) : ∃ A cap, v = .slice A n cap := by
  rcases h with ⟨rfl, rfl⟩ | ⟨lb, cap, cur, rfl, _⟩
  · exact ⟨_, _, rfl⟩
  · exact ⟨_, _, rfl⟩
set_option maxHeartbeats 1000000 in
theorem put_new (w : World) (lp : Nat) (side most : Int) (v : Value) (u : Nat → Nat) (n : Nat) (f : Nat → Lvl) (h : LadI w lp side most v u n f) (p q : Int) (hp : 1 ≤ p ∧ p ≤ 9223372036854775807) (hq : 1 ≤ q ∧ q ≤ 9223372036854775807) (hno : ∀ j, j < n → (f j).price ≠ p) (hroom : (n : Int) < most) :
    Calls Try.prog 87 #[.pointer (some ⟨lp, 0, none⟩), .int .i64 p, .int .i64 q] w fun e w' => ∃ (k i : Nat) (v' : Value), e = .returned (.tuple #[.int .i64 k, .int .i64 0]) ∧ Fr (lp :: v.ownBlock.toList) w w' ∧ (v'.ownBlock = v.ownBlock ∨ ∃ g, v'.ownBlock = some g ∧ w.heap.size ≤ g) ∧
      Placed side n f p i ∧ LadI w' lp side most v' (setU u k) (n + 1) (insF f i ⟨p, q, 1, k⟩) ∧ usedB u k = false ∧ ∀ c, c < k → usedB u c = true := by
  obtain ⟨k, hkn, hkf, hkl⟩ := h.least
  have hv := h.own
  have hmost := h.r.hmost
  have HP := Lib.hid (h.r.find p (by unfold In63; omega))
  have hk256 : k < 256 := by omega
  have HQ := Lib.hid (fun (w' : World) (F : Fr [] w w') => queue_any w' lp side most v u (Blk.via F (by simp) h.r.b) h.word k hk256 hkf hkl)
  obtain ⟨A, cap, hform⟩ := h.r.form
  have HV := Lib.hid hform
  have HN := Lib.hid hno
  have HX := Lib.hid h
  have HK := Lib.hid (And.intro hkf hkl)
  have p1 := hp.1
  have q1 := hq.1
  have HPQ := Lib.hid (And.intro hp hq)
  have hroom' : ¬ most ≤ (n : Int) := by omega
  have HVL := Lib.hid hv
  have ll := h.r.b.lt
  subst hform
  clear h hno hp hq hkf hkl hv HV
  go_enter Try.func87, Try.ntmps87
  go_wp2_with fail
  refine HP.out.mono ?_
  rintro e w1 ⟨i, rfl, F1, hpl⟩
  rw [placed_no HN.out]
  have c := (Blk.via F1 (by simp) HX.out.r.b).cell
  go_wp2_with fail
  go_quiet (fail)
  go_wp2_with fail
  refine (HQ.out _ (by with_reducible repeat (first | exact Fr.refl _ _ | assumption | apply Fr.drew | apply Fr.drewN | apply Fr.alloc | (apply Fr.step; assumption; (intro _ h; (first | exact h | (focus (simp_all; done))))) | (apply Fr.setIn; (first | exact List.mem_cons_self | exact List.mem_cons_of_mem _ List.mem_cons_self | exact List.mem_cons_of_mem _ (List.mem_cons_of_mem _ List.mem_cons_self) | exact List.mem_cons_of_mem _ (List.mem_cons_of_mem _ (List.mem_cons_of_mem _ List.mem_cons_self)))) | (apply Fr.setNew; (first | omega | (simp; omega)))))).mono ?_
  rintro e w2 ⟨rfl, F2, B2⟩
  clear c
  go_wp2_with fail
  refine wp_name (fun W hW => ?_)
  have X : Blk W w2.heap.size 159 (lvL ⟨p, q, 1, k⟩).toArray := Blk.eqv hW (Blk.new _ _ _)
  have G0 : Fr [] w2 W := Fr.eqv hW (by with_reducible repeat (first | exact Fr.refl _ _ | assumption | apply Fr.drew | apply Fr.drewN | apply Fr.alloc | (apply Fr.step; assumption; (intro _ h; (first | exact h | (focus (simp_all; done))))) | (apply Fr.setIn; (first | exact List.mem_cons_self | exact List.mem_cons_of_mem _ List.mem_cons_self | exact List.mem_cons_of_mem _ (List.mem_cons_of_mem _ List.mem_cons_self) | exact List.mem_cons_of_mem _ (List.mem_cons_of_mem _ (List.mem_cons_of_mem _ List.mem_cons_self)))) | (apply Fr.setNew; (first | omega | (simp; omega)))))
  have R : RowL W (.slice A n cap) n f := ((HX.out.r.r.via (F1.drewN _) (by simp)).via F2 (fun g hg => by have := HVL.out; rw [hg] at this; simpa using this)).via G0 (by simp)
  have B3 := Blk.via G0 (by simp) B2
  have hb : ∀ g, (Value.slice A n cap).ownBlock = some g → g < w.heap.size := fun g hg => by
    rcases HX.out.r.r with ⟨e, _⟩ | ⟨lb, cap', cur, e, _, B, _⟩
    · rw [e] at hg; cases hg
    · rw [e] at hg; cases hg; exact B.lt
  have FA : Fr [lp] w w2 := ((F1.mono (by simp)).drewN _).trans F2
  have FB : Fr [lp] w W := FA.trans (G0.mono (by simp))
  have s1 := FA.size
  have HB := Lib.hid hb
  have n1000 : n ≤ 1000 := by omega
  have hin := hpl.1
  clear hW hb B2 F1 F2
  have hS0 : ∀ w', Fr [] W w' → w'.cell? ⟨lp, 2, none⟩ = some (.slice A n cap) ∧ w'.cell? ⟨w2.heap.size, 0, none⟩ = some (.int .i64 p) ∧ w'.cell? ⟨w2.heap.size, 1, none⟩ = some (.int .i64 q) ∧ w'.cell? ⟨w2.heap.size, 2, none⟩ = some (.int .i64 1) ∧ w'.cell? ⟨w2.heap.size, 3, none⟩ = some (.int .i64 k) := fun w' F =>
    have b := Blk.via F (by simp) B3
    have x := Blk.via F (by simp) X
    ⟨(b.cell 2).trans rfl, (x.cell 0).trans rfl, (x.cell 1).trans rfl, (x.cell 2).trans rfl, (x.cell 3).trans rfl⟩
  refine u_region (S := fun w' => w'.cell? ⟨lp, 2, none⟩ = some (.slice A n cap) ∧ w'.cell? ⟨w2.heap.size, 0, none⟩ = some (.int .i64 p) ∧ w'.cell? ⟨w2.heap.size, 1, none⟩ = some (.int .i64 q) ∧ w'.cell? ⟨w2.heap.size, 2, none⟩ = some (.int .i64 1) ∧ w'.cell? ⟨w2.heap.size, 3, none⟩ = some (.int .i64 k)) 11 (by kernel_rfl) (by kernel_rfl) (by kernel_rfl) (by kernel_rfl) (by kernel_rfl) (hS0 _ (Fr.drew (Fr.refl _ _))) ?_
  (refine u_take 0 (v := ?_) rfl rfl (by kernel_rfl) (by kernel_rfl) (fun _ _ _ h => h) (Or.inl ⟨by rfl, ?_⟩) ?_; rotate_left; (focus (intro wz hSw; (try dsimp only at hSw); go_simp; (try with_reducible rfl))); (try simp only [Act.put, List.getElem_toArray, List.getElem_cons_succ, List.getElem_cons_zero, List.setIfInBounds_toArray, List.set_cons_zero, List.set_cons_succ]))
  (refine u_take 1 (v := ?_) rfl rfl (by kernel_rfl) (by kernel_rfl) (fun _ _ _ h => h) (Or.inl ⟨by rfl, ?_⟩) ?_; rotate_left; (focus (intro wz hSw; (try dsimp only at hSw); go_simp; (try with_reducible rfl))); (try simp only [Act.put, List.getElem_toArray, List.getElem_cons_succ, List.getElem_cons_zero, List.setIfInBounds_toArray, List.set_cons_zero, List.set_cons_succ]))
  (refine u_take 2 (v := ?_) rfl rfl (by kernel_rfl) (by kernel_rfl) (fun _ _ _ h => h) (Or.inl ⟨by rfl, ?_⟩) ?_; rotate_left; (focus (intro wz hSw; (try dsimp only at hSw); go_simp; (try with_reducible rfl))); (try simp only [Act.put, List.getElem_toArray, List.getElem_cons_succ, List.getElem_cons_zero, List.setIfInBounds_toArray, List.set_cons_zero, List.set_cons_succ]))
  (refine u_take 3 (v := ?_) rfl rfl (by kernel_rfl) (by kernel_rfl) (fun _ _ _ h => h) (Or.inl ⟨by rfl, ?_⟩) ?_; rotate_left; (focus (intro wz hSw; (try dsimp only at hSw); go_simp; (try with_reducible rfl))); (try simp only [Act.put, List.getElem_toArray, List.getElem_cons_succ, List.getElem_cons_zero, List.setIfInBounds_toArray, List.set_cons_zero, List.set_cons_succ]))
  (refine u_take 4 (v := ?_) rfl rfl (by kernel_rfl) (by kernel_rfl) (fun _ _ _ h => h) (Or.inl ⟨by rfl, ?_⟩) ?_; rotate_left; (focus (intro wz hSw; (try dsimp only at hSw); go_simp; (try with_reducible rfl))); (try simp only [Act.put, List.getElem_toArray, List.getElem_cons_succ, List.getElem_cons_zero, List.setIfInBounds_toArray, List.set_cons_zero, List.set_cons_succ]))
  (refine u_take 5 (v := ?_) rfl rfl (by kernel_rfl) (by kernel_rfl) (fun _ _ _ h => h) (Or.inl ⟨by rfl, ?_⟩) ?_; rotate_left; (focus (intro wz hSw; (try dsimp only at hSw); go_simp; (try with_reducible rfl))); (try simp only [Act.put, List.getElem_toArray, List.getElem_cons_succ, List.getElem_cons_zero, List.setIfInBounds_toArray, List.set_cons_zero, List.set_cons_succ]))
  (refine u_take 6 (v := ?_) rfl rfl (by kernel_rfl) (by kernel_rfl) (fun _ _ _ h => h) (Or.inl ⟨by rfl, ?_⟩) ?_; rotate_left; (focus (intro wz hSw; (try dsimp only at hSw); go_simp; (try with_reducible rfl))); (try simp only [Act.put, List.getElem_toArray, List.getElem_cons_succ, List.getElem_cons_zero, List.setIfInBounds_toArray, List.set_cons_zero, List.set_cons_succ]))
  refine u_one 7 (by kernel_rfl) rfl rfl (fun Kq hKq => ?_)
  go_simp
  refine hKq _ _ (hS0 _ (by with_reducible repeat (first | exact Fr.refl _ _ | assumption | apply Fr.drew | apply Fr.drewN | apply Fr.alloc | (apply Fr.step; assumption; (intro _ h; (first | exact h | (focus (simp_all; done))))) | (apply Fr.setIn; (first | exact List.mem_cons_self | exact List.mem_cons_of_mem _ List.mem_cons_self | exact List.mem_cons_of_mem _ (List.mem_cons_of_mem _ List.mem_cons_self) | exact List.mem_cons_of_mem _ (List.mem_cons_of_mem _ (List.mem_cons_of_mem _ List.mem_cons_self)))) | (apply Fr.setNew; (first | omega | (simp; omega)))))) ?_
  clear hKq Kq
  (try simp only [Act.put, List.getElem_toArray, List.getElem_cons_succ, List.getElem_cons_zero, List.setIfInBounds_toArray, List.set_cons_zero, List.set_cons_succ])
  refine u_one 8 (by kernel_rfl) rfl rfl (fun Kq hKq => ?_)
  go_simp
  have Y : Blk (W.drew.alloc (.cells (lvL ⟨p, q, 1, k⟩).toArray 159)) W.heap.size 159 (lvL ⟨p, q, 1, k⟩).toArray := Blk.new _ _ _
  have GY : Fr [] W (W.drew.alloc (.cells (lvL ⟨p, q, 1, k⟩).toArray 159)) := by with_reducible repeat (first | exact Fr.refl _ _ | assumption | apply Fr.drew | apply Fr.drewN | apply Fr.alloc | (apply Fr.step; assumption; (intro _ h; (first | exact h | (focus (simp_all; done))))) | (apply Fr.setIn; (first | exact List.mem_cons_self | exact List.mem_cons_of_mem _ List.mem_cons_self | exact List.mem_cons_of_mem _ (List.mem_cons_of_mem _ List.mem_cons_self) | exact List.mem_cons_of_mem _ (List.mem_cons_of_mem _ (List.mem_cons_of_mem _ List.mem_cons_self)))) | (apply Fr.setNew; (first | omega | (simp; omega))))
  have hlW := FB.size
  refine (insert_any _ _ n i f (R.via GY (by simp)) hin n1000 W.heap.size ⟨p, q, 1, k⟩ Y (fun g hg e => by have := HB.out g hg; omega)).mono ?_
  rintro e w4 ⟨v', rfl, R4, F4, hv'⟩
  obtain ⟨A', cap', rfl⟩ := R4.form
  have hne : ∀ x, x = lp ∨ x = w2.heap.size → x ∉ (Value.slice A n cap).ownBlock.toList := fun x hx hm => by
    have h1 : (Value.slice A n cap).ownBlock = some x := by simpa using hm
    rcases hx with rfl | rfl
    · exact HVL.out h1
    · have := HB.out _ h1; omega
  have B4 := Blk.via F4 (hne _ (.inl rfl)) (Blk.via GY (by simp) B3)
  have X4 := Blk.via F4 (hne _ (.inr rfl)) (Blk.via GY (by simp) X)
  refine hKq _ _ ⟨(B4.cell 2).trans rfl, (X4.cell 0).trans rfl, (X4.cell 1).trans rfl, (X4.cell 2).trans rfl, (X4.cell 3).trans rfl⟩ ?_
  clear hKq Kq
  have b4 := B4.cell
  have f4 := B4.frozen
  have l4 := B4.lt
  have x4 := (X4.cell 3).trans (show (lvL ⟨p, q, 1, k⟩).toArray[3]? = some (.int .i64 k) from rfl)
  (try simp only [Act.put, List.getElem_toArray, List.getElem_cons_succ, List.getElem_cons_zero, List.setIfInBounds_toArray, List.set_cons_zero, List.set_cons_succ])
  (refine u_take 9 (v := ?_) rfl rfl (by kernel_rfl) (by kernel_rfl) (fun _ _ _ h => h) (Or.inl ⟨by rfl, ?_⟩) ?_; rotate_left; (focus (intro wz hSw; (try dsimp only at hSw); go_simp; (try with_reducible rfl))); (try simp only [Act.put, List.getElem_toArray, List.getElem_cons_succ, List.getElem_cons_zero, List.setIfInBounds_toArray, List.set_cons_zero, List.set_cons_succ]))
  (refine u_take 10 (v := ?_) rfl rfl (by kernel_rfl) (by kernel_rfl) (fun _ _ _ h => h) (Or.inl ⟨by rfl, ?_⟩) ?_; rotate_left; (focus (intro wz hSw; (try dsimp only at hSw); go_simp; (try with_reducible rfl))); (try simp only [Act.put, List.getElem_toArray, List.getElem_cons_succ, List.getElem_cons_zero, List.setIfInBounds_toArray, List.set_cons_zero, List.set_cons_succ]))
  refine u_last (by kernel_rfl) rfl (by kernel_rfl) ?_
  go_wp2_with fail
  go_ret2
  have hlp : ∀ g, (Value.slice A' (n + 1) cap').ownBlock = some g → g ∉ [lp] := fun g hg hm => by
    obtain rfl : g = lp := by simpa using hm
    rcases hv' with e | ⟨g', e, hge⟩
    · exact HVL.out (e.symm.trans hg)
    · rw [hg] at e; cases e
      simp at hge
      omega
  have FS : Fr [lp] w4 (w4.setCell ⟨lp, 2, none⟩ (.slice A' (n + 1) cap')) := Fr.setIn List.mem_cons_self (Fr.refl _ _)
  have HI := HX.out
  have hpp := HPQ.out
  have hbit : ∀ c, c < 256 → (usedB (setU u k) c = true ↔ ∃ j, j < n + 1 ∧ (insF f i ⟨p, q, 1, k⟩ j).queue = (c : Int)) := fun c hc => by
    rw [setU_used]
    constructor
    · intro hb
      rcases (show usedB u c = true ∨ c = k by simpa using hb) with hb | hb
      · obtain ⟨j, hj, e⟩ := (HI.bit c hc).1 hb
        obtain ⟨j', h1, _, h2⟩ := insF_old (f := f) (x := ⟨p, q, 1, k⟩) hin j hj
        exact ⟨j', h1, by rw [h2]; exact e⟩
      · exact ⟨i, by omega, by simp [insF, hb]⟩
    · rintro ⟨j, hj, e⟩
      rcases insF_cases (f := f) (x := ⟨p, q, 1, k⟩) hin j hj with ⟨_, g⟩ | ⟨j', h1, g, _⟩
      · rw [g] at e
        have : c = k := by simp at e; omega
        simp [this]
      · rw [g] at e
        simp [(HI.bit c hc).2 ⟨j', h1, e⟩]
  have hnew : ∀ a, a < n → (f a).queue ≠ (k : Int) := fun a ha e => by
    have := (HI.bit k hk256).2 ⟨a, ha, e⟩
    rw [HK.out.1] at this
    cases this
  refine ⟨k, i, .slice A' (n + 1) cap', rfl, ?_, ?_, hpl, ⟨⟨(B4.same 2 _).cast rfl, R4.via FS hlp, HI.r.hside, hmost, by omega, ?_, ?_⟩, setU_lt HI.word, hbit, ?_, ?_, ?_, ?_, fun e => hlp lp e (by simp)⟩, HK.out⟩
  · have e1 : Fr (lp :: (Value.slice A n cap).ownBlock.toList) w (W.drew.alloc (.cells (lvL ⟨p, q, 1, k⟩).toArray 159)) := Fr.alloc (Fr.drew (FB.mono (by simp))) _
    exact (e1.trans (F4.mono (fun x hx => List.mem_cons_of_mem _ hx))).trans (FS.mono (by simp))
  · rcases hv' with e | ⟨g', e, hge⟩
    · exact .inl e
    · refine .inr ⟨g', e, ?_⟩
      simp at hge
      omega
  · exact insF_lt (Q := fun x => 1 ≤ x.price ∧ x.price ≤ 9223372036854775807) hpp.1 HI.r.price hin
  · exact ins_sorted HI.r.sorted hpl HN.out
  · exact insF_lt (Q := fun x => 0 ≤ x.queue ∧ x.queue < most) (by dsimp only; omega) HI.low hin
  · exact insF_lt (Q := fun x => 0 ≤ x.qty ∧ x.qty ≤ 9223372036854775807) (by dsimp only; omega) HI.qty hin
  · exact insF_lt (Q := fun x => 1 ≤ x.orders) (by dsimp only; omega) HI.ord hin
  · exact ins_inj hin HI.inj hnew
end Go.Proofs.Ytkimldeagndgjaa
