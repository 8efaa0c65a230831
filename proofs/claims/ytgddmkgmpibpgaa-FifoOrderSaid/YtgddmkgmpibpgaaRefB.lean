/- The document's queues, walked: Push, Remove, Pop. -/
import Derived.Test.YtgddmkgmpibpgaaRefA
import Derived.Test.YtgddmkgmpibpgaaFifoE
import Derived.Test.YtgddmkgmpibpgaaUntil
namespace Go.Proofs.Ytgddmkgmpibpgaa
set_option linter.unusedVariables false
set_option linter.unusedSimpArgs false
open Go.RowKit

theorem refPush_no (w : World) (pr bl N K : Nat) (L : Nat → List Nat) (ss : Nat → Value) (h : RefQ w pr bl N K L ss) (hK : K ≤ 400) (hN : N ≤ 500) (hL : ∀ i, i < K → (L i).length ≤ 500) (i n : Int) (hno : ¬ pushOk N K L i n) :
    Calls Try.prog 68 #[.pointer (some ⟨pr, 0, none⟩), .int .i64 i, .int .i64 n] w fun e w' => e = .returned (.bool false) ∧ w = w' := by
  have c := h.p.cell
  have HF := Lib.hid (refFind_any w pr bl N K L ss h hK hL n)
  have hh := refHas_any w pr bl N K L ss h hK i
  by_cases c1 : i < 0 ∨ K ≤ i
  · have hb : decide (0 ≤ i ∧ i < K) = false := by simp; omega
    rw [hb] at hh
    have HH := Lib.hid hh
    clear hh hb hno
    go_enter Try.func68, Try.ntmps68
    go_wp2_with fail
    refine HF.out.mono ?_
    rintro e w1 ⟨a, b, rfl, rfl, hfd⟩
    go_wp2_with fail
    refine HH.out.mono ?_
    rintro e w1 ⟨rfl, rfl⟩
    go_wp2_with fail
    go_ret
    exact ⟨rfl, rfl⟩
  · have hb : decide (0 ≤ i ∧ i < K) = true := by simp; omega
    rw [hb] at hh
    have HH := Lib.hid hh
    clear hh hb
    by_cases c2 : n < 0
    · clear hno
      go_enter Try.func68, Try.ntmps68
      go_wp2_with fail
      refine HF.out.mono ?_
      rintro e w1 ⟨a, b, rfl, rfl, hfd⟩
      go_wp2_with fail
      refine HH.out.mono ?_
      rintro e w1 ⟨rfl, rfl⟩
      go_wp2_with fail
      go_ret
      exact ⟨rfl, rfl⟩
    · by_cases c3 : N ≤ n
      · clear hno
        have c2' : 0 ≤ n := by omega
        go_enter Try.func68, Try.ntmps68
        go_wp2_with fail
        refine HF.out.mono ?_
        rintro e w1 ⟨a, b, rfl, rfl, hfd⟩
        go_wp2_with fail
        refine HH.out.mono ?_
        rintro e w1 ⟨rfl, rfl⟩
        go_wp2_with fail
        go_ret
        exact ⟨rfl, rfl⟩
      · have c2' : 0 ≤ n := by omega
        have c3' : n < N := by omega
        have hin : ∃ j, j < K ∧ n.toNat ∈ L j := Classical.byContradiction fun hc => hno ⟨by omega, by omega, c2', c3', fun j hj hm => hc ⟨j, hj, hm⟩⟩
        clear hno
        go_enter Try.func68, Try.ntmps68
        go_wp2_with fail
        refine HF.out.mono ?_
        rintro e w1 ⟨a, b, rfl, rfl, hfd⟩
        have ha : 0 ≤ a := by
          rcases hfd with ⟨i', k', rfl, _⟩ | ⟨_, _, hn⟩
          · omega
          · obtain ⟨j, hj, hm⟩ := hin
            exact absurd (show ((n.toNat : Nat) : Int) = n by omega) (hn j hj _ hm)
        clear hfd hin
        go_wp2_with fail
        refine HH.out.mono ?_
        rintro e w1 ⟨rfl, rfl⟩
        go_wp2_with fail
        go_ret
        exact ⟨rfl, rfl⟩

/-- A row's slice is laid anew. -/
theorem refQ_put {w : World} {pr bl N K : Nat} {L : Nat → List Nat} {ss : Nat → Value} (h : RefQ w pr bl N K L ss) (hne : pr ≠ bl) {i m : Nat} {v : Value} {xs l : List Nat} (ho : w.ownsRow 0 3 1 v m (nums xs)) (hx : m = l.length ∧ xs = l) :
    RefQ (w.setCell ⟨bl, i, none⟩ v) pr bl N K (updQ L i l) (fun j => if j = i then v else ss j) := by
  obtain ⟨rfl, rfl⟩ := hx
  have F : Fr [bl] w (w.setCell ⟨bl, i, none⟩ v) := Fr.setIn List.mem_cons_self (Fr.refl _ _)
  refine ⟨h.p.off hne, h.l.rput, fun j hj => ?_⟩
  by_cases c : j = i
  · subst c
    simp only [updQ, if_true]
    exact own_via F (fun g hg => by simpa using own_off ho h.l (by decide) g hg) ho
  · simp only [updQ, c, if_false]
    exact own_via F (fun g hg => by simpa using own_off (h.own j hj) h.l (by decide) g hg) (h.own j hj)

set_option maxHeartbeats 2000000 in
theorem refPush_yes (w : World) (pr bl N K : Nat) (L : Nat → List Nat) (ss : Nat → Value) (h : RefQ w pr bl N K L ss) (hK : K ≤ 400) (hN : N ≤ 500) (hL : ∀ i, i < K → (L i).length ≤ 500) (i n : Nat) (hi : i < K) (hn : n < N) (hf : ∀ j, j < K → n ∉ L j) :
    Calls Try.prog 68 #[.pointer (some ⟨pr, 0, none⟩), .int .i64 i, .int .i64 n] w fun e w' => e = .returned (.bool true) ∧ Fr [bl] w w' ∧ ∃ ss', RefQ w' pr bl N K (updQ L i (L i ++ [n])) ss' := by
  have c := h.p.cell
  have HF := Lib.hid (refFind_any w pr bl N K L ss h hK hL n)
  have hh := refHas_any w pr bl N K L ss h hK i
  have hb : decide (0 ≤ (i : Int) ∧ (i : Int) < K) = true := by simp; omega
  rw [hb] at hh
  have HH := Lib.hid hh
  clear hh hb
  have hown := h.own i hi
  have ca := h.l.rat hi
  obtain ⟨Aa, cc, hs, hcc⟩ := own_form hown
  rw [hs] at ca hown
  have ll := hL i hi
  have hp := h.p.lt
  have hl := h.l.lt
  have dpl : pr ≠ bl := h.p.ne h.l (by decide)
  obtain ⟨ii, hii, hz0, hz1, hz2⟩ := info_parts info_int
  have HI := Lib.hid hii
  have HS := Lib.hid hs
  clear hs hii
  have i0 : (0 : Int) ≤ (i : Int) := by omega
  have i1 : (i : Int) < (K : Int) := by omega
  go_enter Try.func68, Try.ntmps68
  go_wp2_with fail
  refine HF.out.mono ?_
  rintro e w1 ⟨a, b, rfl, rfl, hfd⟩
  have ha : a < 0 := by
    rcases hfd with ⟨i', k', rfl, _, hi', x, hx, hm⟩ | ⟨rfl, _, hn⟩
    · have : x = n := by omega
      subst this
      exact absurd (List.mem_of_getElem? hm) (hf i' hi')
    · omega
  clear hfd
  go_wp2_with fail
  refine HH.out.mono ?_
  rintro e w1 ⟨rfl, rfl⟩
  clear HI hz0 hz1 hz2 HF HH hf hL
  go_wp2_with fail
  refine u_region (S := fun w' => w'.cell? ⟨pr, 1, none⟩ = some (.slice (some ⟨bl, 0, none⟩) K K) ∧ w'.cell? ⟨bl, i, none⟩ = some (.slice Aa (L i).length cc)) 18 (by kernel_rfl) (by kernel_rfl) (by kernel_rfl) (by kernel_rfl) (by kernel_rfl) ⟨(h.p.drew.cell 1).trans rfl, (h.l.drew.rat hi).trans (by rw [HS.out])⟩ ?_
  (refine u_take 0 (v := ?_) rfl rfl (by kernel_rfl) (by kernel_rfl) (fun _ _ _ h => h) (Or.inl ⟨by rfl, ?_⟩) ?_; rotate_left; (focus (intro wz hSw; (try dsimp only at hSw); go_simp; (try with_reducible rfl))); (try simp only [Act.put, List.getElem_toArray, List.getElem_cons_succ, List.getElem_cons_zero, List.setIfInBounds_toArray, List.set_cons_zero, List.set_cons_succ]))
  (refine u_take 1 (v := ?_) rfl rfl (by kernel_rfl) (by kernel_rfl) (fun _ _ _ h => h) (Or.inl ⟨by rfl, ?_⟩) ?_; rotate_left; (focus (intro wz hSw; (try dsimp only at hSw); go_simp; (try with_reducible rfl))); (try simp only [Act.put, List.getElem_toArray, List.getElem_cons_succ, List.getElem_cons_zero, List.setIfInBounds_toArray, List.set_cons_zero, List.set_cons_succ]))
  (refine u_take 2 (v := ?_) rfl rfl (by kernel_rfl) (by kernel_rfl) (fun _ _ _ h => h) (Or.inl ⟨by rfl, ?_⟩) ?_; rotate_left; (focus (intro wz hSw; (try dsimp only at hSw); go_simp; (try with_reducible rfl))); (try simp only [Act.put, List.getElem_toArray, List.getElem_cons_succ, List.getElem_cons_zero, List.setIfInBounds_toArray, List.set_cons_zero, List.set_cons_succ]))
  (refine u_take 3 (v := ?_) rfl rfl (by kernel_rfl) (by kernel_rfl) (fun _ _ _ h => h) (Or.inl ⟨by rfl, ?_⟩) ?_; rotate_left; (focus (intro wz hSw; (try dsimp only at hSw); go_simp; (try with_reducible rfl))); (try simp only [Act.put, List.getElem_toArray, List.getElem_cons_succ, List.getElem_cons_zero, List.setIfInBounds_toArray, List.set_cons_zero, List.set_cons_succ]))
  (refine u_take 4 (v := ?_) rfl rfl (by kernel_rfl) (by kernel_rfl) (fun _ _ _ h => h) (Or.inl ⟨by rfl, ?_⟩) ?_; rotate_left; (focus (intro wz hSw; (try dsimp only at hSw); go_simp; (try with_reducible rfl))); (try simp only [Act.put, List.getElem_toArray, List.getElem_cons_succ, List.getElem_cons_zero, List.setIfInBounds_toArray, List.set_cons_zero, List.set_cons_succ]))
  (refine u_take 6 (v := ?_) rfl rfl (by kernel_rfl) (by kernel_rfl) (fun _ _ _ h => h) (Or.inl ⟨by rfl, ?_⟩) ?_; rotate_left; (focus (intro wz hSw; (try dsimp only at hSw); go_simp; (try with_reducible rfl))); (try simp only [Act.put, List.getElem_toArray, List.getElem_cons_succ, List.getElem_cons_zero, List.setIfInBounds_toArray, List.set_cons_zero, List.set_cons_succ]))
  (refine u_take 7 (v := ?_) rfl rfl (by kernel_rfl) (by kernel_rfl) (fun _ _ _ h => h) (Or.inl ⟨by rfl, ?_⟩) ?_; rotate_left; (focus (intro wz hSw; (try dsimp only at hSw); go_simp; (try with_reducible rfl))); (try simp only [Act.put, List.getElem_toArray, List.getElem_cons_succ, List.getElem_cons_zero, List.setIfInBounds_toArray, List.set_cons_zero, List.set_cons_succ]))
  (refine u_take 8 (v := ?_) rfl rfl (by kernel_rfl) (by kernel_rfl) (fun _ _ _ h => h) (Or.inl ⟨by rfl, ?_⟩) ?_; rotate_left; (focus (intro wz hSw; (try dsimp only at hSw); go_simp; (try with_reducible rfl))); (try simp only [Act.put, List.getElem_toArray, List.getElem_cons_succ, List.getElem_cons_zero, List.setIfInBounds_toArray, List.set_cons_zero, List.set_cons_succ]))
  (refine u_take 9 (v := ?_) rfl rfl (by kernel_rfl) (by kernel_rfl) (fun _ _ _ h => h) (Or.inl ⟨by rfl, ?_⟩) ?_; rotate_left; (focus (intro wz hSw; (try dsimp only at hSw); go_simp; (try with_reducible rfl))); (try simp only [Act.put, List.getElem_toArray, List.getElem_cons_succ, List.getElem_cons_zero, List.setIfInBounds_toArray, List.set_cons_zero, List.set_cons_succ]))
  (refine u_take 10 (v := ?_) rfl rfl (by kernel_rfl) (by kernel_rfl) (fun _ _ _ h => h) (Or.inl ⟨by rfl, ?_⟩) ?_; rotate_left; (focus (intro wz hSw; (try dsimp only at hSw); go_simp; (try with_reducible rfl))); (try simp only [Act.put, List.getElem_toArray, List.getElem_cons_succ, List.getElem_cons_zero, List.setIfInBounds_toArray, List.set_cons_zero, List.set_cons_succ]))
  (refine u_take 11 (v := ?_) rfl rfl (by kernel_rfl) (by kernel_rfl) (fun _ _ _ h => h) (Or.inl ⟨by rfl, ?_⟩) ?_; rotate_left; (focus (intro wz hSw; (try dsimp only at hSw); go_simp; (try with_reducible rfl))); (try simp only [Act.put, List.getElem_toArray, List.getElem_cons_succ, List.getElem_cons_zero, List.setIfInBounds_toArray, List.set_cons_zero, List.set_cons_succ]))
  (refine u_take 12 (v := ?_) rfl rfl (by kernel_rfl) (by kernel_rfl) (fun _ _ _ h => h) (Or.inl ⟨by rfl, ?_⟩) ?_; rotate_left; (focus (intro wz hSw; (try dsimp only at hSw); go_simp; (try with_reducible rfl))); (try simp only [Act.put, List.getElem_toArray, List.getElem_cons_succ, List.getElem_cons_zero, List.setIfInBounds_toArray, List.set_cons_zero, List.set_cons_succ]))
  (refine u_take 14 (v := ?_) rfl rfl (by kernel_rfl) (by kernel_rfl) (fun _ _ _ h => h) (Or.inl ⟨by rfl, ?_⟩) ?_; rotate_left; (focus (intro wz hSw; (try dsimp only at hSw); go_simp; (try with_reducible rfl))); (try simp only [Act.put, List.getElem_toArray, List.getElem_cons_succ, List.getElem_cons_zero, List.setIfInBounds_toArray, List.set_cons_zero, List.set_cons_succ]))
  refine u_two 5 15 (by kernel_rfl) rfl rfl rfl rfl (fun Kq hKq => ?_) (fun Kq hKq => ?_)
  · (go_simp; refine hKq _ _ ?_ ?_; (focus (refine ⟨((Blk.via (S := []) (a := w) ?_ (by simp) h.p).cell 1).trans rfl, ((Blk.via (S := []) (a := w) ?_ (by simp) h.l).rat hi).trans (by rw [HS.out])⟩ <;> (with_reducible repeat (first | exact Fr.refl _ _ | assumption | apply Fr.drew | apply Fr.drewN | apply Fr.alloc | (apply Fr.step; assumption; (intro _ h; (first | exact h | (focus (simp_all; done))))) | (apply Fr.setIn; (first | exact List.mem_cons_self | exact List.mem_cons_of_mem _ List.mem_cons_self | exact List.mem_cons_of_mem _ (List.mem_cons_of_mem _ List.mem_cons_self) | exact List.mem_cons_of_mem _ (List.mem_cons_of_mem _ (List.mem_cons_of_mem _ List.mem_cons_self)))) | (apply Fr.setNew; (first | omega | (simp; omega))))))); clear hKq Kq; (try simp only [Act.put, List.getElem_toArray, List.getElem_cons_succ, List.getElem_cons_zero, List.setIfInBounds_toArray, List.set_cons_zero, List.set_cons_succ]))
    refine u_two 13 15 (by kernel_rfl) rfl rfl rfl rfl (fun Kq hKq => ?_) (fun Kq hKq => ?_)
    · refine step_appI (w0 := w) rfl (.tmp 40) (.tmp 47) rfl (.slice (some ⟨_, 0, none⟩) 0 0) 0 [] rfl ?ow Aa _ cc (L i) rfl rfl ?sr ?bd ?fr ?_
      case ow => (first | exact own_empty (by simp) (by simp) | exact (own_empty (by simp) (by simp)).alloc _)
      case sr => (refine Src.own (own_via (S := []) (w := w) ?_ (by simp) hown); with_reducible repeat (first | exact Fr.refl _ _ | assumption | apply Fr.drew | apply Fr.drewN | apply Fr.alloc | (apply Fr.step; assumption; (intro _ h; (first | exact h | (focus (simp_all; done))))) | (apply Fr.setIn; (first | exact List.mem_cons_self | exact List.mem_cons_of_mem _ List.mem_cons_self | exact List.mem_cons_of_mem _ (List.mem_cons_of_mem _ List.mem_cons_self) | exact List.mem_cons_of_mem _ (List.mem_cons_of_mem _ (List.mem_cons_of_mem _ List.mem_cons_self)))) | (apply Fr.setNew; (first | omega | (simp; omega)))))
      case bd => omega
      case fr => (with_reducible repeat (first | exact Fr.refl _ _ | assumption | apply Fr.drew | apply Fr.drewN | apply Fr.alloc | (apply Fr.step; assumption; (intro _ h; (first | exact h | (focus (simp_all; done))))) | (apply Fr.setIn; (first | exact List.mem_cons_self | exact List.mem_cons_of_mem _ List.mem_cons_self | exact List.mem_cons_of_mem _ (List.mem_cons_of_mem _ List.mem_cons_self) | exact List.mem_cons_of_mem _ (List.mem_cons_of_mem _ (List.mem_cons_of_mem _ List.mem_cons_self)))) | (apply Fr.setNew; (first | omega | (simp; omega)))))
      intro v1 w2 o1 F1 s1
      refine hKq _ _ ?_ ?_
      focus (refine ⟨((Blk.via (S := []) (a := w) ?_ (by simp) h.p).cell 1).trans rfl, ((Blk.via (S := []) (a := w) ?_ (by simp) h.l).rat hi).trans (by rw [HS.out])⟩ <;> (with_reducible repeat (first | exact Fr.refl _ _ | assumption | apply Fr.drew | apply Fr.drewN | apply Fr.alloc | (apply Fr.step; assumption; (intro _ h; (first | exact h | (focus (simp_all; done))))) | (apply Fr.setIn; (first | exact List.mem_cons_self | exact List.mem_cons_of_mem _ List.mem_cons_self | exact List.mem_cons_of_mem _ (List.mem_cons_of_mem _ List.mem_cons_self) | exact List.mem_cons_of_mem _ (List.mem_cons_of_mem _ (List.mem_cons_of_mem _ List.mem_cons_self)))) | (apply Fr.setNew; (first | omega | (simp; omega))))))
      clear hKq Kq
      (try simp only [Act.put, List.getElem_toArray, List.getElem_cons_succ, List.getElem_cons_zero, List.setIfInBounds_toArray, List.set_cons_zero, List.set_cons_succ])
      refine u_one 15 (by kernel_rfl) rfl rfl (fun Kq hKq => ?_)
      (go_simp; refine hKq _ _ ?_ ?_; (focus (refine ⟨((Blk.via (S := []) (a := w) ?_ (by simp) h.p).cell 1).trans rfl, ((Blk.via (S := []) (a := w) ?_ (by simp) h.l).rat hi).trans (by rw [HS.out])⟩ <;> (with_reducible repeat (first | exact Fr.refl _ _ | assumption | apply Fr.drew | apply Fr.drewN | apply Fr.alloc | (apply Fr.step; assumption; (intro _ h; (first | exact h | (focus (simp_all; done))))) | (apply Fr.setIn; (first | exact List.mem_cons_self | exact List.mem_cons_of_mem _ List.mem_cons_self | exact List.mem_cons_of_mem _ (List.mem_cons_of_mem _ List.mem_cons_self) | exact List.mem_cons_of_mem _ (List.mem_cons_of_mem _ (List.mem_cons_of_mem _ List.mem_cons_self)))) | (apply Fr.setNew; (first | omega | (simp; omega))))))); clear hKq Kq; (try simp only [Act.put, List.getElem_toArray, List.getElem_cons_succ, List.getElem_cons_zero, List.setIfInBounds_toArray, List.set_cons_zero, List.set_cons_succ]))
      refine u_one 16 (by kernel_rfl) rfl rfl (fun Kq hKq => ?_)
      refine step_appI (w0 := w) rfl (.tmp 48) (.tmp 50) rfl _ (0 + (L i).length) ([] ++ L i) rfl ?ow (some ⟨_, 0, none⟩) 1 1 [n] rfl rfl ?sr ?bd ?fr ?_
      case ow => (first | exact o1 | exact o1.alloc _)
      case sr => (refine src_one (e := 3) ?_; first | ((with_reducible repeat (first | exact Blk.new _ _ _ | (apply Blk.newAt rfl; (first | (simp; done) | (simp; omega))) | assumption | exact trivial | apply Blk.drew | apply Blk.drewN | apply Blk.alloc | (apply Blk.off; (first | assumption | omega)) | (apply Blk.put; omega) | (apply Blk.put0; omega) | apply Blk.same)); done) | (refine blk_same s1 ?_ ?_; (simp [Value.ownBlock]); (with_reducible repeat (first | exact Blk.new _ _ _ | (apply Blk.newAt rfl; (first | (simp; done) | (simp; omega))) | assumption | exact trivial | apply Blk.drew | apply Blk.drewN | apply Blk.alloc | (apply Blk.off; (first | assumption | omega)) | (apply Blk.put; omega) | (apply Blk.put0; omega) | apply Blk.same))))
      case bd => (simp; omega)
      case fr => (with_reducible repeat (first | exact Fr.refl _ _ | assumption | apply Fr.drew | apply Fr.drewN | apply Fr.alloc | (apply Fr.step; assumption; (intro _ h; (first | exact h | (focus (simp_all; done))))) | (apply Fr.setIn; (first | exact List.mem_cons_self | exact List.mem_cons_of_mem _ List.mem_cons_self | exact List.mem_cons_of_mem _ (List.mem_cons_of_mem _ List.mem_cons_self) | exact List.mem_cons_of_mem _ (List.mem_cons_of_mem _ (List.mem_cons_of_mem _ List.mem_cons_self)))) | (apply Fr.setNew; (first | omega | (simp; omega)))))
      intro v2 w3 o2 F2 s2
      refine hKq _ _ ?_ ?_
      focus (refine ⟨((Blk.via (S := []) (a := w) ?_ (by simp) h.p).cell 1).trans rfl, ((Blk.via (S := []) (a := w) ?_ (by simp) h.l).rat hi).trans (by rw [HS.out])⟩ <;> (with_reducible repeat (first | exact Fr.refl _ _ | assumption | apply Fr.drew | apply Fr.drewN | apply Fr.alloc | (apply Fr.step; assumption; (intro _ h; (first | exact h | (focus (simp_all; done))))) | (apply Fr.setIn; (first | exact List.mem_cons_self | exact List.mem_cons_of_mem _ List.mem_cons_self | exact List.mem_cons_of_mem _ (List.mem_cons_of_mem _ List.mem_cons_self) | exact List.mem_cons_of_mem _ (List.mem_cons_of_mem _ (List.mem_cons_of_mem _ List.mem_cons_self)))) | (apply Fr.setNew; (first | omega | (simp; omega))))))
      clear hKq Kq
      (try simp only [Act.put, List.getElem_toArray, List.getElem_cons_succ, List.getElem_cons_zero, List.setIfInBounds_toArray, List.set_cons_zero, List.set_cons_succ])
      (refine u_take 17 (v := ?_) rfl rfl (by kernel_rfl) (by kernel_rfl) (fun _ _ _ h => h) (Or.inl ⟨by rfl, ?_⟩) ?_; rotate_left; (focus (intro wz hSw; (try dsimp only at hSw); go_simp; (try with_reducible rfl))); (try simp only [Act.put, List.getElem_toArray, List.getElem_cons_succ, List.getElem_cons_zero, List.setIfInBounds_toArray, List.set_cons_zero, List.set_cons_succ]))
      refine u_last (by kernel_rfl) rfl (by kernel_rfl) ?_
      rw [Nat.zero_add, List.nil_append] at o2
      obtain ⟨A2, k2, rfl, hk2⟩ := own_form o2
      have B3 := Blk.via F2 (by simp) h.l
      have c3 := B3.rat hi
      have f3 := B3.frozen
      clear c ca hown
      go_wp2_with fail
      go_ret
      refine ⟨rfl, ?_, fun j => if j = i then .slice A2 ((L i).length + 1) k2 else ss j, ?_⟩
      · with_reducible repeat (first | exact Fr.refl _ _ | assumption | apply Fr.drew | apply Fr.drewN | apply Fr.alloc | (apply Fr.step; assumption; (intro _ h; (first | exact h | (focus (simp_all; done))))) | (apply Fr.setIn; (first | exact List.mem_cons_self | exact List.mem_cons_of_mem _ List.mem_cons_self | exact List.mem_cons_of_mem _ (List.mem_cons_of_mem _ List.mem_cons_self) | exact List.mem_cons_of_mem _ (List.mem_cons_of_mem _ (List.mem_cons_of_mem _ List.mem_cons_self)))) | (apply Fr.setNew; (first | omega | (simp; omega))))
      · refine refQ_put (h.fr F2 (by simp) (by simp) (by simp)) dpl (own_base o2 (by omega)) ?_
        exact ⟨by simp, rfl⟩
    · (go_simp; refine hKq _ _ ?_ ?_; (focus (refine ⟨((Blk.via (S := []) (a := w) ?_ (by simp) h.p).cell 1).trans rfl, ((Blk.via (S := []) (a := w) ?_ (by simp) h.l).rat hi).trans (by rw [HS.out])⟩ <;> (with_reducible repeat (first | exact Fr.refl _ _ | assumption | apply Fr.drew | apply Fr.drewN | apply Fr.alloc | (apply Fr.step; assumption; (intro _ h; (first | exact h | (focus (simp_all; done))))) | (apply Fr.setIn; (first | exact List.mem_cons_self | exact List.mem_cons_of_mem _ List.mem_cons_self | exact List.mem_cons_of_mem _ (List.mem_cons_of_mem _ List.mem_cons_self) | exact List.mem_cons_of_mem _ (List.mem_cons_of_mem _ (List.mem_cons_of_mem _ List.mem_cons_self)))) | (apply Fr.setNew; (first | omega | (simp; omega))))))); clear hKq Kq; (try simp only [Act.put, List.getElem_toArray, List.getElem_cons_succ, List.getElem_cons_zero, List.setIfInBounds_toArray, List.set_cons_zero, List.set_cons_succ]))
      refine u_one 13 (by kernel_rfl) rfl rfl (fun Kq hKq => ?_)
      refine step_appI (w0 := w) rfl (.tmp 40) (.tmp 47) rfl (.slice (some ⟨_, 0, none⟩) 0 0) 0 [] rfl ?ow Aa _ cc (L i) rfl rfl ?sr ?bd ?fr ?_
      case ow => (first | exact own_empty (by simp) (by simp) | exact (own_empty (by simp) (by simp)).alloc _)
      case sr => (refine Src.own (own_via (S := []) (w := w) ?_ (by simp) hown); with_reducible repeat (first | exact Fr.refl _ _ | assumption | apply Fr.drew | apply Fr.drewN | apply Fr.alloc | (apply Fr.step; assumption; (intro _ h; (first | exact h | (focus (simp_all; done))))) | (apply Fr.setIn; (first | exact List.mem_cons_self | exact List.mem_cons_of_mem _ List.mem_cons_self | exact List.mem_cons_of_mem _ (List.mem_cons_of_mem _ List.mem_cons_self) | exact List.mem_cons_of_mem _ (List.mem_cons_of_mem _ (List.mem_cons_of_mem _ List.mem_cons_self)))) | (apply Fr.setNew; (first | omega | (simp; omega)))))
      case bd => omega
      case fr => (with_reducible repeat (first | exact Fr.refl _ _ | assumption | apply Fr.drew | apply Fr.drewN | apply Fr.alloc | (apply Fr.step; assumption; (intro _ h; (first | exact h | (focus (simp_all; done))))) | (apply Fr.setIn; (first | exact List.mem_cons_self | exact List.mem_cons_of_mem _ List.mem_cons_self | exact List.mem_cons_of_mem _ (List.mem_cons_of_mem _ List.mem_cons_self) | exact List.mem_cons_of_mem _ (List.mem_cons_of_mem _ (List.mem_cons_of_mem _ List.mem_cons_self)))) | (apply Fr.setNew; (first | omega | (simp; omega)))))
      intro v1 w2 o1 F1 s1
      refine hKq _ _ ?_ ?_
      focus (refine ⟨((Blk.via (S := []) (a := w) ?_ (by simp) h.p).cell 1).trans rfl, ((Blk.via (S := []) (a := w) ?_ (by simp) h.l).rat hi).trans (by rw [HS.out])⟩ <;> (with_reducible repeat (first | exact Fr.refl _ _ | assumption | apply Fr.drew | apply Fr.drewN | apply Fr.alloc | (apply Fr.step; assumption; (intro _ h; (first | exact h | (focus (simp_all; done))))) | (apply Fr.setIn; (first | exact List.mem_cons_self | exact List.mem_cons_of_mem _ List.mem_cons_self | exact List.mem_cons_of_mem _ (List.mem_cons_of_mem _ List.mem_cons_self) | exact List.mem_cons_of_mem _ (List.mem_cons_of_mem _ (List.mem_cons_of_mem _ List.mem_cons_self)))) | (apply Fr.setNew; (first | omega | (simp; omega))))))
      clear hKq Kq
      (try simp only [Act.put, List.getElem_toArray, List.getElem_cons_succ, List.getElem_cons_zero, List.setIfInBounds_toArray, List.set_cons_zero, List.set_cons_succ])
      refine u_one 16 (by kernel_rfl) rfl rfl (fun Kq hKq => ?_)
      refine step_appI (w0 := w) rfl (.tmp 48) (.tmp 50) rfl _ (0 + (L i).length) ([] ++ L i) rfl ?ow (some ⟨_, 0, none⟩) 1 1 [n] rfl rfl ?sr ?bd ?fr ?_
      case ow => (first | exact o1 | exact o1.alloc _)
      case sr => (refine src_one (e := 3) ?_; first | ((with_reducible repeat (first | exact Blk.new _ _ _ | (apply Blk.newAt rfl; (first | (simp; done) | (simp; omega))) | assumption | exact trivial | apply Blk.drew | apply Blk.drewN | apply Blk.alloc | (apply Blk.off; (first | assumption | omega)) | (apply Blk.put; omega) | (apply Blk.put0; omega) | apply Blk.same)); done) | (refine blk_same s1 ?_ ?_; (simp [Value.ownBlock]); (with_reducible repeat (first | exact Blk.new _ _ _ | (apply Blk.newAt rfl; (first | (simp; done) | (simp; omega))) | assumption | exact trivial | apply Blk.drew | apply Blk.drewN | apply Blk.alloc | (apply Blk.off; (first | assumption | omega)) | (apply Blk.put; omega) | (apply Blk.put0; omega) | apply Blk.same))))
      case bd => (simp; omega)
      case fr => (with_reducible repeat (first | exact Fr.refl _ _ | assumption | apply Fr.drew | apply Fr.drewN | apply Fr.alloc | (apply Fr.step; assumption; (intro _ h; (first | exact h | (focus (simp_all; done))))) | (apply Fr.setIn; (first | exact List.mem_cons_self | exact List.mem_cons_of_mem _ List.mem_cons_self | exact List.mem_cons_of_mem _ (List.mem_cons_of_mem _ List.mem_cons_self) | exact List.mem_cons_of_mem _ (List.mem_cons_of_mem _ (List.mem_cons_of_mem _ List.mem_cons_self)))) | (apply Fr.setNew; (first | omega | (simp; omega)))))
      intro v2 w3 o2 F2 s2
      refine hKq _ _ ?_ ?_
      focus (refine ⟨((Blk.via (S := []) (a := w) ?_ (by simp) h.p).cell 1).trans rfl, ((Blk.via (S := []) (a := w) ?_ (by simp) h.l).rat hi).trans (by rw [HS.out])⟩ <;> (with_reducible repeat (first | exact Fr.refl _ _ | assumption | apply Fr.drew | apply Fr.drewN | apply Fr.alloc | (apply Fr.step; assumption; (intro _ h; (first | exact h | (focus (simp_all; done))))) | (apply Fr.setIn; (first | exact List.mem_cons_self | exact List.mem_cons_of_mem _ List.mem_cons_self | exact List.mem_cons_of_mem _ (List.mem_cons_of_mem _ List.mem_cons_self) | exact List.mem_cons_of_mem _ (List.mem_cons_of_mem _ (List.mem_cons_of_mem _ List.mem_cons_self)))) | (apply Fr.setNew; (first | omega | (simp; omega))))))
      clear hKq Kq
      (try simp only [Act.put, List.getElem_toArray, List.getElem_cons_succ, List.getElem_cons_zero, List.setIfInBounds_toArray, List.set_cons_zero, List.set_cons_succ])
      (refine u_take 17 (v := ?_) rfl rfl (by kernel_rfl) (by kernel_rfl) (fun _ _ _ h => h) (Or.inl ⟨by rfl, ?_⟩) ?_; rotate_left; (focus (intro wz hSw; (try dsimp only at hSw); go_simp; (try with_reducible rfl))); (try simp only [Act.put, List.getElem_toArray, List.getElem_cons_succ, List.getElem_cons_zero, List.setIfInBounds_toArray, List.set_cons_zero, List.set_cons_succ]))
      refine u_last (by kernel_rfl) rfl (by kernel_rfl) ?_
      rw [Nat.zero_add, List.nil_append] at o2
      obtain ⟨A2, k2, rfl, hk2⟩ := own_form o2
      have B3 := Blk.via F2 (by simp) h.l
      have c3 := B3.rat hi
      have f3 := B3.frozen
      clear c ca hown
      go_wp2_with fail
      go_ret
      refine ⟨rfl, ?_, fun j => if j = i then .slice A2 ((L i).length + 1) k2 else ss j, ?_⟩
      · with_reducible repeat (first | exact Fr.refl _ _ | assumption | apply Fr.drew | apply Fr.drewN | apply Fr.alloc | (apply Fr.step; assumption; (intro _ h; (first | exact h | (focus (simp_all; done))))) | (apply Fr.setIn; (first | exact List.mem_cons_self | exact List.mem_cons_of_mem _ List.mem_cons_self | exact List.mem_cons_of_mem _ (List.mem_cons_of_mem _ List.mem_cons_self) | exact List.mem_cons_of_mem _ (List.mem_cons_of_mem _ (List.mem_cons_of_mem _ List.mem_cons_self)))) | (apply Fr.setNew; (first | omega | (simp; omega))))
      · refine refQ_put (h.fr F2 (by simp) (by simp) (by simp)) dpl (own_base o2 (by omega)) ?_
        exact ⟨by simp, rfl⟩
  · (go_simp; refine hKq _ _ ?_ ?_; (focus (refine ⟨((Blk.via (S := []) (a := w) ?_ (by simp) h.p).cell 1).trans rfl, ((Blk.via (S := []) (a := w) ?_ (by simp) h.l).rat hi).trans (by rw [HS.out])⟩ <;> (with_reducible repeat (first | exact Fr.refl _ _ | assumption | apply Fr.drew | apply Fr.drewN | apply Fr.alloc | (apply Fr.step; assumption; (intro _ h; (first | exact h | (focus (simp_all; done))))) | (apply Fr.setIn; (first | exact List.mem_cons_self | exact List.mem_cons_of_mem _ List.mem_cons_self | exact List.mem_cons_of_mem _ (List.mem_cons_of_mem _ List.mem_cons_self) | exact List.mem_cons_of_mem _ (List.mem_cons_of_mem _ (List.mem_cons_of_mem _ List.mem_cons_self)))) | (apply Fr.setNew; (first | omega | (simp; omega))))))); clear hKq Kq; (try simp only [Act.put, List.getElem_toArray, List.getElem_cons_succ, List.getElem_cons_zero, List.setIfInBounds_toArray, List.set_cons_zero, List.set_cons_succ]))
    refine u_one 5 (by kernel_rfl) rfl rfl (fun Kq hKq => ?_)
    (go_simp; refine hKq _ _ ?_ ?_; (focus (refine ⟨((Blk.via (S := []) (a := w) ?_ (by simp) h.p).cell 1).trans rfl, ((Blk.via (S := []) (a := w) ?_ (by simp) h.l).rat hi).trans (by rw [HS.out])⟩ <;> (with_reducible repeat (first | exact Fr.refl _ _ | assumption | apply Fr.drew | apply Fr.drewN | apply Fr.alloc | (apply Fr.step; assumption; (intro _ h; (first | exact h | (focus (simp_all; done))))) | (apply Fr.setIn; (first | exact List.mem_cons_self | exact List.mem_cons_of_mem _ List.mem_cons_self | exact List.mem_cons_of_mem _ (List.mem_cons_of_mem _ List.mem_cons_self) | exact List.mem_cons_of_mem _ (List.mem_cons_of_mem _ (List.mem_cons_of_mem _ List.mem_cons_self)))) | (apply Fr.setNew; (first | omega | (simp; omega))))))); clear hKq Kq; (try simp only [Act.put, List.getElem_toArray, List.getElem_cons_succ, List.getElem_cons_zero, List.setIfInBounds_toArray, List.set_cons_zero, List.set_cons_succ]))
    refine u_one 13 (by kernel_rfl) rfl rfl (fun Kq hKq => ?_)
    refine step_appI (w0 := w) rfl (.tmp 40) (.tmp 47) rfl (.slice (some ⟨_, 0, none⟩) 0 0) 0 [] rfl ?ow Aa _ cc (L i) rfl rfl ?sr ?bd ?fr ?_
    case ow => (first | exact own_empty (by simp) (by simp) | exact (own_empty (by simp) (by simp)).alloc _)
    case sr => (refine Src.own (own_via (S := []) (w := w) ?_ (by simp) hown); with_reducible repeat (first | exact Fr.refl _ _ | assumption | apply Fr.drew | apply Fr.drewN | apply Fr.alloc | (apply Fr.step; assumption; (intro _ h; (first | exact h | (focus (simp_all; done))))) | (apply Fr.setIn; (first | exact List.mem_cons_self | exact List.mem_cons_of_mem _ List.mem_cons_self | exact List.mem_cons_of_mem _ (List.mem_cons_of_mem _ List.mem_cons_self) | exact List.mem_cons_of_mem _ (List.mem_cons_of_mem _ (List.mem_cons_of_mem _ List.mem_cons_self)))) | (apply Fr.setNew; (first | omega | (simp; omega)))))
    case bd => omega
    case fr => (with_reducible repeat (first | exact Fr.refl _ _ | assumption | apply Fr.drew | apply Fr.drewN | apply Fr.alloc | (apply Fr.step; assumption; (intro _ h; (first | exact h | (focus (simp_all; done))))) | (apply Fr.setIn; (first | exact List.mem_cons_self | exact List.mem_cons_of_mem _ List.mem_cons_self | exact List.mem_cons_of_mem _ (List.mem_cons_of_mem _ List.mem_cons_self) | exact List.mem_cons_of_mem _ (List.mem_cons_of_mem _ (List.mem_cons_of_mem _ List.mem_cons_self)))) | (apply Fr.setNew; (first | omega | (simp; omega)))))
    intro v1 w2 o1 F1 s1
    refine hKq _ _ ?_ ?_
    focus (refine ⟨((Blk.via (S := []) (a := w) ?_ (by simp) h.p).cell 1).trans rfl, ((Blk.via (S := []) (a := w) ?_ (by simp) h.l).rat hi).trans (by rw [HS.out])⟩ <;> (with_reducible repeat (first | exact Fr.refl _ _ | assumption | apply Fr.drew | apply Fr.drewN | apply Fr.alloc | (apply Fr.step; assumption; (intro _ h; (first | exact h | (focus (simp_all; done))))) | (apply Fr.setIn; (first | exact List.mem_cons_self | exact List.mem_cons_of_mem _ List.mem_cons_self | exact List.mem_cons_of_mem _ (List.mem_cons_of_mem _ List.mem_cons_self) | exact List.mem_cons_of_mem _ (List.mem_cons_of_mem _ (List.mem_cons_of_mem _ List.mem_cons_self)))) | (apply Fr.setNew; (first | omega | (simp; omega))))))
    clear hKq Kq
    (try simp only [Act.put, List.getElem_toArray, List.getElem_cons_succ, List.getElem_cons_zero, List.setIfInBounds_toArray, List.set_cons_zero, List.set_cons_succ])
    refine u_one 16 (by kernel_rfl) rfl rfl (fun Kq hKq => ?_)
    refine step_appI (w0 := w) rfl (.tmp 48) (.tmp 50) rfl _ (0 + (L i).length) ([] ++ L i) rfl ?ow (some ⟨_, 0, none⟩) 1 1 [n] rfl rfl ?sr ?bd ?fr ?_
    case ow => (first | exact o1 | exact o1.alloc _)
    case sr => (refine src_one (e := 3) ?_; first | ((with_reducible repeat (first | exact Blk.new _ _ _ | (apply Blk.newAt rfl; (first | (simp; done) | (simp; omega))) | assumption | exact trivial | apply Blk.drew | apply Blk.drewN | apply Blk.alloc | (apply Blk.off; (first | assumption | omega)) | (apply Blk.put; omega) | (apply Blk.put0; omega) | apply Blk.same)); done) | (refine blk_same s1 ?_ ?_; (simp [Value.ownBlock]); (with_reducible repeat (first | exact Blk.new _ _ _ | (apply Blk.newAt rfl; (first | (simp; done) | (simp; omega))) | assumption | exact trivial | apply Blk.drew | apply Blk.drewN | apply Blk.alloc | (apply Blk.off; (first | assumption | omega)) | (apply Blk.put; omega) | (apply Blk.put0; omega) | apply Blk.same))))
    case bd => (simp; omega)
    case fr => (with_reducible repeat (first | exact Fr.refl _ _ | assumption | apply Fr.drew | apply Fr.drewN | apply Fr.alloc | (apply Fr.step; assumption; (intro _ h; (first | exact h | (focus (simp_all; done))))) | (apply Fr.setIn; (first | exact List.mem_cons_self | exact List.mem_cons_of_mem _ List.mem_cons_self | exact List.mem_cons_of_mem _ (List.mem_cons_of_mem _ List.mem_cons_self) | exact List.mem_cons_of_mem _ (List.mem_cons_of_mem _ (List.mem_cons_of_mem _ List.mem_cons_self)))) | (apply Fr.setNew; (first | omega | (simp; omega)))))
    intro v2 w3 o2 F2 s2
    refine hKq _ _ ?_ ?_
    focus (refine ⟨((Blk.via (S := []) (a := w) ?_ (by simp) h.p).cell 1).trans rfl, ((Blk.via (S := []) (a := w) ?_ (by simp) h.l).rat hi).trans (by rw [HS.out])⟩ <;> (with_reducible repeat (first | exact Fr.refl _ _ | assumption | apply Fr.drew | apply Fr.drewN | apply Fr.alloc | (apply Fr.step; assumption; (intro _ h; (first | exact h | (focus (simp_all; done))))) | (apply Fr.setIn; (first | exact List.mem_cons_self | exact List.mem_cons_of_mem _ List.mem_cons_self | exact List.mem_cons_of_mem _ (List.mem_cons_of_mem _ List.mem_cons_self) | exact List.mem_cons_of_mem _ (List.mem_cons_of_mem _ (List.mem_cons_of_mem _ List.mem_cons_self)))) | (apply Fr.setNew; (first | omega | (simp; omega))))))
    clear hKq Kq
    (try simp only [Act.put, List.getElem_toArray, List.getElem_cons_succ, List.getElem_cons_zero, List.setIfInBounds_toArray, List.set_cons_zero, List.set_cons_succ])
    (refine u_take 17 (v := ?_) rfl rfl (by kernel_rfl) (by kernel_rfl) (fun _ _ _ h => h) (Or.inl ⟨by rfl, ?_⟩) ?_; rotate_left; (focus (intro wz hSw; (try dsimp only at hSw); go_simp; (try with_reducible rfl))); (try simp only [Act.put, List.getElem_toArray, List.getElem_cons_succ, List.getElem_cons_zero, List.setIfInBounds_toArray, List.set_cons_zero, List.set_cons_succ]))
    refine u_last (by kernel_rfl) rfl (by kernel_rfl) ?_
    rw [Nat.zero_add, List.nil_append] at o2
    obtain ⟨A2, k2, rfl, hk2⟩ := own_form o2
    have B3 := Blk.via F2 (by simp) h.l
    have c3 := B3.rat hi
    have f3 := B3.frozen
    clear c ca hown
    go_wp2_with fail
    go_ret
    refine ⟨rfl, ?_, fun j => if j = i then .slice A2 ((L i).length + 1) k2 else ss j, ?_⟩
    · with_reducible repeat (first | exact Fr.refl _ _ | assumption | apply Fr.drew | apply Fr.drewN | apply Fr.alloc | (apply Fr.step; assumption; (intro _ h; (first | exact h | (focus (simp_all; done))))) | (apply Fr.setIn; (first | exact List.mem_cons_self | exact List.mem_cons_of_mem _ List.mem_cons_self | exact List.mem_cons_of_mem _ (List.mem_cons_of_mem _ List.mem_cons_self) | exact List.mem_cons_of_mem _ (List.mem_cons_of_mem _ (List.mem_cons_of_mem _ List.mem_cons_self)))) | (apply Fr.setNew; (first | omega | (simp; omega))))
    · refine refQ_put (h.fr F2 (by simp) (by simp) (by simp)) dpl (own_base o2 (by omega)) ?_
      exact ⟨by simp, rfl⟩
end Go.Proofs.Ytgddmkgmpibpgaa
