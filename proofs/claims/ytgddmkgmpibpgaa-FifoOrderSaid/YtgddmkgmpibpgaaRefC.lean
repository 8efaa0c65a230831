/- The document's queues, walked: Remove, Pop. -/
import Derived.Test.YtgddmkgmpibpgaaRefB
namespace Go.Proofs.Ytgddmkgmpibpgaa
set_option linter.unusedVariables false
set_option linter.unusedSimpArgs false
open Go.RowKit

theorem refRemove_no (w : World) (pr bl N K : Nat) (L : Nat → List Nat) (ss : Nat → Value) (h : RefQ w pr bl N K L ss) (hK : K ≤ 400) (hL : ∀ i, i < K → (L i).length ≤ 500) (n : Int) (hn : ∀ i, i < K → ∀ m : Nat, n = m → m ∉ L i) :
    Calls Try.prog 70 #[.pointer (some ⟨pr, 0, none⟩), .int .i64 n] w fun e w' => e = .returned (.tuple #[.int .i64 0, .bool false]) ∧ w = w' := by
  have HF := Lib.hid (refFind_any w pr bl N K L ss h hK hL n)
  have HN := Lib.hid hn
  clear hn hL
  go_enter Try.func70, Try.ntmps70
  go_wp2_with fail
  refine HF.out.mono ?_
  rintro e w1 ⟨a, b, rfl, rfl, hfd⟩
  have ha : a < 0 := by
    rcases hfd with ⟨i', k', rfl, _, hi', x, hx, hm⟩ | ⟨rfl, _, _⟩
    · exact absurd (List.mem_of_getElem? hm) (HN.out i' hi' x hx.symm)
    · omega
  clear hfd
  go_wp2_with fail
  go_ret2
  exact ⟨rfl, rfl⟩

set_option maxHeartbeats 2000000 in
theorem refRemove_yes (w : World) (pr bl N K : Nat) (L : Nat → List Nat) (ss : Nat → Value) (h : RefQ w pr bl N K L ss) (hK : K ≤ 400) (hL : ∀ i, i < K → (L i).length ≤ 500) (i n : Nat) (X Y : List Nat) (hi : i < K) (hx : L i = X ++ n :: Y)
    (hu : ∀ i' k', i' < K → (L i')[k']? = some n → i' = i ∧ k' = X.length) :
    Calls Try.prog 70 #[.pointer (some ⟨pr, 0, none⟩), .int .i64 n] w fun e w' => e = .returned (.tuple #[.int .i64 i, .bool true]) ∧ Fr [bl] w w' ∧ ∃ ss', RefQ w' pr bl N K (updQ L i (X ++ Y)) ss' := by
  have HF := Lib.hid (refFind_any w pr bl N K L ss h hK hL n)
  have HU := Lib.hid hu
  have hown := h.own i hi
  have hle : (L i).length = X.length + 1 + Y.length := by rw [hx]; simp; omega
  rw [hle] at hown
  obtain ⟨g, cc, hs, hcc, hg, hcell⟩ := own_some hown (by omega)
  rw [hs] at hown
  have ca := h.l.rat hi
  rw [hs] at ca
  have ll := hL i hi
  rw [hle] at ll
  have src := Src.own hown
  have srcX : Src w (some ⟨g, 0, none⟩) (nums X) := by
    have := src.take X.length
    rw [hx] at this
    simpa [nums, List.take_append] using this
  have srcY : Src w (some ⟨g, 0 + (X.length + 1), none⟩) (nums Y) := by
    have := src.from (n := 0) (X.length + 1)
    rw [hx] at this
    have e : (X ++ n :: Y).drop (X.length + 1) = Y := by rw [List.drop_append]; simp
    rwa [show nums (X ++ n :: Y) = (X ++ n :: Y).map fun x : Nat => .int .i64 (x : Int) from rfl, ← List.map_drop, e] at this
  have hp := h.p.lt
  have hl := h.l.lt
  have dpl : pr ≠ bl := h.p.ne h.l (by decide)
  have HS := Lib.hid hs
  have HX := Lib.hid hx
  clear hs hu hx hcell src hle hL
  have i0 : (0 : Int) ≤ (i : Int) := by omega
  have i1 : (i : Int) < (K : Int) := by omega
  have x1 : X.length ≤ cc := by omega
  have x2 : X.length + 1 ≤ cc := by omega
  have x3 : (0 : Int) ≤ (X.length : Int) := by omega
  have x4 : (X.length : Int) ≤ 500 := by omega
  have x6 : (0 : Int) ≤ (X.length : Int) + 1 := by omega
  have x5 : (X.length : Int) + 1 ≤ (X.length : Int) + 1 + (Y.length : Int) := by omega
  have c := h.p.cell
  go_enter Try.func70, Try.ntmps70
  go_wp2_with fail
  refine HF.out.mono ?_
  rintro e w1 ⟨a, b, rfl, rfl, hfd⟩
  have hab : a = (i : Int) ∧ b = (X.length : Int) := by
    rcases hfd with ⟨i', k', rfl, rfl, hi', x, hx, hm⟩ | ⟨_, _, hn⟩
    · obtain rfl : x = n := by omega
      obtain ⟨rfl, rfl⟩ := HU.out i' k' hi' hm
      exact ⟨rfl, rfl⟩
    · exact absurd rfl (hn i hi n (by rw [HX.out]; simp))
  obtain ⟨rfl, rfl⟩ := hab
  clear hfd HU HF
  go_wp2_with fail
  refine u_region (S := fun w' => w'.cell? ⟨pr, 1, none⟩ = some (.slice (some ⟨bl, 0, none⟩) K K) ∧ w'.cell? ⟨bl, i, none⟩ = some (.slice (some ⟨g, 0, none⟩) (X.length + 1 + Y.length) cc)) 28 (by kernel_rfl) (by kernel_rfl) (by kernel_rfl) (by kernel_rfl) (by kernel_rfl) ⟨(h.p.drew.cell 1).trans rfl, (h.l.drew.rat hi).trans (by rw [HS.out])⟩ ?_
  (refine u_take 0 (v := ?_) rfl rfl (by kernel_rfl) (by kernel_rfl) (fun _ _ _ h => h) (Or.inl ⟨by rfl, ?_⟩) ?_; rotate_left; (focus (intro wz hSw; (try dsimp only at hSw); go_simp; (try with_reducible rfl))); (try simp only [Act.put, List.getElem_toArray, List.getElem_cons_succ, List.getElem_cons_zero, List.setIfInBounds_toArray, List.set_cons_zero, List.set_cons_succ]))
  (refine u_take 1 (v := ?_) rfl rfl (by kernel_rfl) (by kernel_rfl) (fun _ _ _ h => h) (Or.inl ⟨by rfl, ?_⟩) ?_; rotate_left; (focus (intro wz hSw; (try dsimp only at hSw); go_simp; (try with_reducible rfl))); (try simp only [Act.put, List.getElem_toArray, List.getElem_cons_succ, List.getElem_cons_zero, List.setIfInBounds_toArray, List.set_cons_zero, List.set_cons_succ]))
  (refine u_take 2 (v := ?_) rfl rfl (by kernel_rfl) (by kernel_rfl) (fun _ _ _ h => h) (Or.inl ⟨by rfl, ?_⟩) ?_; rotate_left; (focus (intro wz hSw; (try dsimp only at hSw); go_simp; (try with_reducible rfl))); (try simp only [Act.put, List.getElem_toArray, List.getElem_cons_succ, List.getElem_cons_zero, List.setIfInBounds_toArray, List.set_cons_zero, List.set_cons_succ]))
  (refine u_take 3 (v := ?_) rfl rfl (by kernel_rfl) (by kernel_rfl) (fun _ _ _ h => h) (Or.inl ⟨by rfl, ?_⟩) ?_; rotate_left; (focus (intro wz hSw; (try dsimp only at hSw); go_simp; (try with_reducible rfl))); (try simp only [Act.put, List.getElem_toArray, List.getElem_cons_succ, List.getElem_cons_zero, List.setIfInBounds_toArray, List.set_cons_zero, List.set_cons_succ]))
  (refine u_take 4 (v := ?_) rfl rfl (by kernel_rfl) (by kernel_rfl) (fun _ _ _ h => h) (Or.inl ⟨by rfl, ?_⟩) ?_; rotate_left; (focus (intro wz hSw; (try dsimp only at hSw); go_simp; (try with_reducible rfl))); (try simp only [Act.put, List.getElem_toArray, List.getElem_cons_succ, List.getElem_cons_zero, List.setIfInBounds_toArray, List.set_cons_zero, List.set_cons_succ]))
  (refine u_take 6 (v := ?_) rfl rfl (by kernel_rfl) (by kernel_rfl) (fun _ _ _ h => h) (Or.inl ⟨by rfl, ?_⟩) ?_; rotate_left; (focus (intro wz hSw; (try dsimp only at hSw); go_simp; (try with_reducible rfl))); (try simp only [Act.put, List.getElem_toArray, List.getElem_cons_succ, List.getElem_cons_zero, List.setIfInBounds_toArray, List.set_cons_zero, List.set_cons_succ]))
  (refine u_take 7 (v := ?_) rfl rfl (by kernel_rfl) (by kernel_rfl) (fun _ _ _ h => h) (Or.inl ⟨by rfl, ?_⟩) ?_; rotate_left; (focus (intro wz hSw; (try dsimp only at hSw); go_simp; (try with_reducible rfl))); (try simp only [Act.put, List.getElem_toArray, List.getElem_cons_succ, List.getElem_cons_zero, List.setIfInBounds_toArray, List.set_cons_zero, List.set_cons_succ]))
  (refine u_take 8 (v := ?_) rfl rfl (by kernel_rfl) (by kernel_rfl) (fun _ _ _ h => h) (Or.inl ⟨by rfl, ?_⟩) ?_; rotate_left; (focus (intro wz hSw; (try dsimp only at hSw); go_simp; (try with_reducible rfl))); (try simp only [Act.put, List.getElem_toArray, List.getElem_cons_succ, List.getElem_cons_zero, List.setIfInBounds_toArray, List.set_cons_zero, List.set_cons_succ]))
  (refine u_take 9 (v := ?_) rfl rfl (by kernel_rfl) (by kernel_rfl) (fun _ _ _ h => h) (Or.inl ⟨by rfl, ?_⟩) ?_; rotate_left; (focus (intro wz hSw; (try dsimp only at hSw); go_simp; (try with_reducible rfl))); (try simp only [Act.put, List.getElem_toArray, List.getElem_cons_succ, List.getElem_cons_zero, List.setIfInBounds_toArray, List.set_cons_zero, List.set_cons_succ]))
  (refine u_take 10 (v := ?_) rfl rfl (by kernel_rfl) (by kernel_rfl) (fun _ _ _ h => h) (Or.inl ⟨by rfl, ?_⟩) ?_; rotate_left; (focus (intro wz hSw; (try dsimp only at hSw); go_simp; (try with_reducible rfl))); (try simp only [Act.put, List.getElem_toArray, List.getElem_cons_succ, List.getElem_cons_zero, List.setIfInBounds_toArray, List.set_cons_zero, List.set_cons_succ]))
  (refine u_take 11 (v := ?_) rfl rfl (by kernel_rfl) (by kernel_rfl) (fun _ _ _ h => h) (Or.inl ⟨by rfl, ?_⟩) ?_; rotate_left; (focus (intro wz hSw; (try dsimp only at hSw); go_simp; (try with_reducible rfl))); (try simp only [Act.put, List.getElem_toArray, List.getElem_cons_succ, List.getElem_cons_zero, List.setIfInBounds_toArray, List.set_cons_zero, List.set_cons_succ]))
  (refine u_take 12 (v := ?_) rfl rfl (by kernel_rfl) (by kernel_rfl) (fun _ _ _ h => h) (Or.inl ⟨by rfl, ?_⟩) ?_; rotate_left; (focus (intro wz hSw; (try dsimp only at hSw); go_simp; (try with_reducible rfl))); (try simp only [Act.put, List.getElem_toArray, List.getElem_cons_succ, List.getElem_cons_zero, List.setIfInBounds_toArray, List.set_cons_zero, List.set_cons_succ]))
  (refine u_take 13 (v := ?_) rfl rfl (by kernel_rfl) (by kernel_rfl) (fun _ _ _ h => h) (Or.inl ⟨by rfl, ?_⟩) ?_; rotate_left; (focus (intro wz hSw; (try dsimp only at hSw); go_simp; (try with_reducible rfl))); (try simp only [Act.put, List.getElem_toArray, List.getElem_cons_succ, List.getElem_cons_zero, List.setIfInBounds_toArray, List.set_cons_zero, List.set_cons_succ]))
  (refine u_take 14 (v := ?_) rfl rfl (by kernel_rfl) (by kernel_rfl) (fun _ _ _ h => h) (Or.inl ⟨by rfl, ?_⟩) ?_; rotate_left; (focus (intro wz hSw; (try dsimp only at hSw); go_simp; (try with_reducible rfl))); (try simp only [Act.put, List.getElem_toArray, List.getElem_cons_succ, List.getElem_cons_zero, List.setIfInBounds_toArray, List.set_cons_zero, List.set_cons_succ]))
  (refine u_take 16 (v := ?_) rfl rfl (by kernel_rfl) (by kernel_rfl) (fun _ _ _ h => h) (Or.inl ⟨by rfl, ?_⟩) ?_; rotate_left; (focus (intro wz hSw; (try dsimp only at hSw); go_simp; (try with_reducible rfl))); (try simp only [Act.put, List.getElem_toArray, List.getElem_cons_succ, List.getElem_cons_zero, List.setIfInBounds_toArray, List.set_cons_zero, List.set_cons_succ]))
  (refine u_take 17 (v := ?_) rfl rfl (by kernel_rfl) (by kernel_rfl) (fun _ _ _ h => h) (Or.inl ⟨by rfl, ?_⟩) ?_; rotate_left; (focus (intro wz hSw; (try dsimp only at hSw); go_simp; (try with_reducible rfl))); (try simp only [Act.put, List.getElem_toArray, List.getElem_cons_succ, List.getElem_cons_zero, List.setIfInBounds_toArray, List.set_cons_zero, List.set_cons_succ]))
  (refine u_take 18 (v := ?_) rfl rfl (by kernel_rfl) (by kernel_rfl) (fun _ _ _ h => h) (Or.inl ⟨by rfl, ?_⟩) ?_; rotate_left; (focus (intro wz hSw; (try dsimp only at hSw); go_simp; (try with_reducible rfl))); (try simp only [Act.put, List.getElem_toArray, List.getElem_cons_succ, List.getElem_cons_zero, List.setIfInBounds_toArray, List.set_cons_zero, List.set_cons_succ]))
  (refine u_take 19 (v := ?_) rfl rfl (by kernel_rfl) (by kernel_rfl) (fun _ _ _ h => h) (Or.inl ⟨by rfl, ?_⟩) ?_; rotate_left; (focus (intro wz hSw; (try dsimp only at hSw); go_simp; (try with_reducible rfl))); (try simp only [Act.put, List.getElem_toArray, List.getElem_cons_succ, List.getElem_cons_zero, List.setIfInBounds_toArray, List.set_cons_zero, List.set_cons_succ]))
  (refine u_take 20 (v := ?_) rfl rfl (by kernel_rfl) (by kernel_rfl) (fun _ _ _ h => h) (Or.inl ⟨by rfl, ?_⟩) ?_; rotate_left; (focus (intro wz hSw; (try dsimp only at hSw); go_simp; (try with_reducible rfl))); (try simp only [Act.put, List.getElem_toArray, List.getElem_cons_succ, List.getElem_cons_zero, List.setIfInBounds_toArray, List.set_cons_zero, List.set_cons_succ]))
  (refine u_take 21 (v := ?_) rfl rfl (by kernel_rfl) (by kernel_rfl) (fun _ _ _ h => h) (Or.inl ⟨by rfl, ?_⟩) ?_; rotate_left; (focus (intro wz hSw; (try dsimp only at hSw); go_simp; (try with_reducible rfl))); (try simp only [Act.put, List.getElem_toArray, List.getElem_cons_succ, List.getElem_cons_zero, List.setIfInBounds_toArray, List.set_cons_zero, List.set_cons_succ]))
  (refine u_take 22 (v := ?_) rfl rfl (by kernel_rfl) (by kernel_rfl) (fun _ _ _ h => h) (Or.inl ⟨by rfl, ?_⟩) ?_; rotate_left; (focus (intro wz hSw; (try dsimp only at hSw); go_simp; (try with_reducible rfl))); (try simp only [Act.put, List.getElem_toArray, List.getElem_cons_succ, List.getElem_cons_zero, List.setIfInBounds_toArray, List.set_cons_zero, List.set_cons_succ]))
  (refine u_take 23 (v := ?_) rfl rfl (by kernel_rfl) (by kernel_rfl) (fun _ _ _ h => h) (Or.inl ⟨by rfl, ?_⟩) ?_; rotate_left; (focus (intro wz hSw; (try dsimp only at hSw); go_simp; (try with_reducible rfl))); (try simp only [Act.put, List.getElem_toArray, List.getElem_cons_succ, List.getElem_cons_zero, List.setIfInBounds_toArray, List.set_cons_zero, List.set_cons_succ]))
  (refine u_take 24 (v := .int .i64 ((X.length : Int) + 1)) rfl rfl (by kernel_rfl) (by kernel_rfl) (fun _ _ _ h => h) (Or.inl ⟨by rfl, ?_⟩) ?_; (focus (intro wz hSw; (try dsimp only at hSw); go_simp; rw [Go.IntWalk.i64_in _ (by omega)])); (try simp only [Act.put, List.getElem_toArray, List.getElem_cons_succ, List.getElem_cons_zero, List.setIfInBounds_toArray, List.set_cons_zero, List.set_cons_succ]))
  (refine u_take 25 (v := ?_) rfl rfl (by kernel_rfl) (by kernel_rfl) (fun _ _ _ h => h) (Or.inl ⟨by rfl, ?_⟩) ?_; rotate_left; (focus (intro wz hSw; (try dsimp only at hSw); go_simp; (try with_reducible rfl))); (try simp only [Act.put, List.getElem_toArray, List.getElem_cons_succ, List.getElem_cons_zero, List.setIfInBounds_toArray, List.set_cons_zero, List.set_cons_succ]))
  generalize hAy : (if cc = X.length + 1 then (some ⟨g, 0, none⟩ : Option Addr) else some ⟨g, X.length + 1, none⟩) = Ay
  have HAy := Lib.hid hAy
  clear hAy
  refine u_one 5 (by kernel_rfl) rfl rfl (fun Kq hKq => ?_)
  (go_simp; refine hKq _ _ ?_ ?_; (focus (refine ⟨((Blk.via (S := []) (a := w) ?_ (by simp) h.p).cell 1).trans rfl, ((Blk.via (S := []) (a := w) ?_ (by simp) h.l).rat hi).trans (by rw [HS.out])⟩ <;> (with_reducible repeat (first | exact Fr.refl _ _ | assumption | apply Fr.drew | apply Fr.drewN | apply Fr.alloc | (apply Fr.step; assumption; (intro _ h; (first | exact h | (focus (simp_all; done))))) | (apply Fr.setIn; (first | exact List.mem_cons_self | exact List.mem_cons_of_mem _ List.mem_cons_self | exact List.mem_cons_of_mem _ (List.mem_cons_of_mem _ List.mem_cons_self) | exact List.mem_cons_of_mem _ (List.mem_cons_of_mem _ (List.mem_cons_of_mem _ List.mem_cons_self)))) | (apply Fr.setNew; (first | omega | (simp; omega))))))); clear hKq Kq; (try simp only [Act.put, List.getElem_toArray, List.getElem_cons_succ, List.getElem_cons_zero, List.setIfInBounds_toArray, List.set_cons_zero, List.set_cons_succ]))
  refine u_one 15 (by kernel_rfl) rfl rfl (fun Kq hKq => ?_)
  refine step_appI (w0 := w) rfl (.tmp 21) (.tmp 30) rfl (.slice (some ⟨_, 0, none⟩) 0 0) 0 [] rfl ?ow (some ⟨g, 0, none⟩) _ cc X rfl rfl ?sr ?bd ?fr ?_
  case ow => (first | exact own_empty (by simp) (by simp) | exact (own_empty (by simp) (by simp)).alloc _)
  case sr =>
    have F : Fr [] w (w.drew.alloc (.cells #[] 3)) := by with_reducible repeat (first | exact Fr.refl _ _ | assumption | apply Fr.drew | apply Fr.drewN | apply Fr.alloc | (apply Fr.step; assumption; (intro _ h; (first | exact h | (focus (simp_all; done))))) | (apply Fr.setIn; (first | exact List.mem_cons_self | exact List.mem_cons_of_mem _ List.mem_cons_self | exact List.mem_cons_of_mem _ (List.mem_cons_of_mem _ List.mem_cons_self) | exact List.mem_cons_of_mem _ (List.mem_cons_of_mem _ (List.mem_cons_of_mem _ List.mem_cons_self)))) | (apply Fr.setNew; (first | omega | (simp; omega))))
    exact srcX.mv (fun g' o' e => by injection e with e; injection e with e1; subst e1; exact F.block _ hg (by simp)) F.size
  case bd => omega
  case fr => (with_reducible repeat (first | exact Fr.refl _ _ | assumption | apply Fr.drew | apply Fr.drewN | apply Fr.alloc | (apply Fr.step; assumption; (intro _ h; (first | exact h | (focus (simp_all; done))))) | (apply Fr.setIn; (first | exact List.mem_cons_self | exact List.mem_cons_of_mem _ List.mem_cons_self | exact List.mem_cons_of_mem _ (List.mem_cons_of_mem _ List.mem_cons_self) | exact List.mem_cons_of_mem _ (List.mem_cons_of_mem _ (List.mem_cons_of_mem _ List.mem_cons_self)))) | (apply Fr.setNew; (first | omega | (simp; omega)))))
  intro v1 w2 o1 F1 s1
  refine hKq _ _ ?_ ?_
  focus (refine ⟨((Blk.via (S := []) (a := w) ?_ (by simp) h.p).cell 1).trans rfl, ((Blk.via (S := []) (a := w) ?_ (by simp) h.l).rat hi).trans (by rw [HS.out])⟩ <;> (with_reducible repeat (first | exact Fr.refl _ _ | assumption | apply Fr.drew | apply Fr.drewN | apply Fr.alloc | (apply Fr.step; assumption; (intro _ h; (first | exact h | (focus (simp_all; done))))) | (apply Fr.setIn; (first | exact List.mem_cons_self | exact List.mem_cons_of_mem _ List.mem_cons_self | exact List.mem_cons_of_mem _ (List.mem_cons_of_mem _ List.mem_cons_self) | exact List.mem_cons_of_mem _ (List.mem_cons_of_mem _ (List.mem_cons_of_mem _ List.mem_cons_self)))) | (apply Fr.setNew; (first | omega | (simp; omega))))))
  clear hKq Kq
  (try simp only [Act.put, List.getElem_toArray, List.getElem_cons_succ, List.getElem_cons_zero, List.setIfInBounds_toArray, List.set_cons_zero, List.set_cons_succ])
  rw [Nat.zero_add, List.nil_append] at o1
  refine u_one 26 (by kernel_rfl) rfl rfl (fun Kq hKq => ?_)
  refine step_appI (w0 := w) rfl (.tmp 31) (.tmp 41) rfl _ X.length X rfl ?ow Ay _ (cc - (X.length + 1)) Y rfl rfl ?sr ?bd ?fr ?_
  case ow => exact o1
  case sr =>
    rw [← HAy.out]
    by_cases e : cc = X.length + 1
    · have hY : Y = [] := List.eq_nil_of_length_eq_zero (by omega)
      rw [hY]
      exact Src.nil _ _
    · rw [if_neg e]
      rw [Nat.zero_add] at srcY
      exact srcY.mv (fun g' o' e => by injection e with e; injection e with e1; subst e1; exact F1.block _ hg (by simp)) F1.size
  case bd => omega
  case fr => (with_reducible repeat (first | exact Fr.refl _ _ | assumption | apply Fr.drew | apply Fr.drewN | apply Fr.alloc | (apply Fr.step; assumption; (intro _ h; (first | exact h | (focus (simp_all; done))))) | (apply Fr.setIn; (first | exact List.mem_cons_self | exact List.mem_cons_of_mem _ List.mem_cons_self | exact List.mem_cons_of_mem _ (List.mem_cons_of_mem _ List.mem_cons_self) | exact List.mem_cons_of_mem _ (List.mem_cons_of_mem _ (List.mem_cons_of_mem _ List.mem_cons_self)))) | (apply Fr.setNew; (first | omega | (simp; omega)))))
  intro v2 w3 o2 F2 s2
  refine hKq _ _ ?_ ?_
  focus (refine ⟨((Blk.via (S := []) (a := w) ?_ (by simp) h.p).cell 1).trans rfl, ((Blk.via (S := []) (a := w) ?_ (by simp) h.l).rat hi).trans (by rw [HS.out])⟩ <;> (with_reducible repeat (first | exact Fr.refl _ _ | assumption | apply Fr.drew | apply Fr.drewN | apply Fr.alloc | (apply Fr.step; assumption; (intro _ h; (first | exact h | (focus (simp_all; done))))) | (apply Fr.setIn; (first | exact List.mem_cons_self | exact List.mem_cons_of_mem _ List.mem_cons_self | exact List.mem_cons_of_mem _ (List.mem_cons_of_mem _ List.mem_cons_self) | exact List.mem_cons_of_mem _ (List.mem_cons_of_mem _ (List.mem_cons_of_mem _ List.mem_cons_self)))) | (apply Fr.setNew; (first | omega | (simp; omega))))))
  clear hKq Kq
  (try simp only [Act.put, List.getElem_toArray, List.getElem_cons_succ, List.getElem_cons_zero, List.setIfInBounds_toArray, List.set_cons_zero, List.set_cons_succ])
  (refine u_take 27 (v := ?_) rfl rfl (by kernel_rfl) (by kernel_rfl) (fun _ _ _ h => h) (Or.inl ⟨by rfl, ?_⟩) ?_; rotate_left; (focus (intro wz hSw; (try dsimp only at hSw); go_simp; (try with_reducible rfl))); (try simp only [Act.put, List.getElem_toArray, List.getElem_cons_succ, List.getElem_cons_zero, List.setIfInBounds_toArray, List.set_cons_zero, List.set_cons_succ]))
  refine u_last (by kernel_rfl) rfl (by kernel_rfl) ?_
  obtain ⟨A2, k2, rfl, hk2⟩ := own_form o2
  have B3 := Blk.via F2 (by simp) h.l
  have c3 := B3.rat hi
  have f3 := B3.frozen
  clear c ca hown
  go_wp2_with fail
  go_ret2
  refine ⟨rfl, ?_, fun j => if j = i then .slice A2 (X.length + Y.length) k2 else ss j, ?_⟩
  · with_reducible repeat (first | exact Fr.refl _ _ | assumption | apply Fr.drew | apply Fr.drewN | apply Fr.alloc | (apply Fr.step; assumption; (intro _ h; (first | exact h | (focus (simp_all; done))))) | (apply Fr.setIn; (first | exact List.mem_cons_self | exact List.mem_cons_of_mem _ List.mem_cons_self | exact List.mem_cons_of_mem _ (List.mem_cons_of_mem _ List.mem_cons_self) | exact List.mem_cons_of_mem _ (List.mem_cons_of_mem _ (List.mem_cons_of_mem _ List.mem_cons_self)))) | (apply Fr.setNew; (first | omega | (simp; omega))))
  · refine refQ_put (h.fr F2 (by simp) (by simp) (by simp)) dpl (own_base o2 (by omega)) ?_
    exact ⟨by simp, rfl⟩

theorem refPop_no (w : World) (pr bl N K : Nat) (L : Nat → List Nat) (ss : Nat → Value) (h : RefQ w pr bl N K L ss) (hK : K ≤ 400) (i : Int) (hi : (i < 0 ∨ K ≤ i) ∨ (∃ j : Nat, i = j ∧ j < K ∧ L j = [])) :
    Calls Try.prog 69 #[.pointer (some ⟨pr, 0, none⟩), .int .i64 i] w fun e w' => e = .returned (.tuple #[.int .i64 0, .bool false]) ∧ w = w' := by
  have HF := Lib.hid (refFront_no w pr bl N K L ss h hK i hi)
  clear hi
  go_enter Try.func69, Try.ntmps69
  go_wp2_with fail
  refine HF.out.mono ?_
  rintro e w1 ⟨rfl, rfl⟩
  go_wp2_with fail
  go_ret2
  exact ⟨rfl, rfl⟩

theorem refPop_yes (w : World) (pr bl N K : Nat) (L : Nat → List Nat) (ss : Nat → Value) (h : RefQ w pr bl N K L ss) (hK : K ≤ 400) (hL : ∀ i, i < K → (L i).length ≤ 500) (i x : Nat) (l : List Nat) (hi : i < K) (hx : L i = x :: l)
    (hu : ∀ i' k', i' < K → (L i')[k']? = some x → i' = i ∧ k' = 0) :
    Calls Try.prog 69 #[.pointer (some ⟨pr, 0, none⟩), .int .i64 i] w fun e w' => e = .returned (.tuple #[.int .i64 x, .bool true]) ∧ Fr [bl] w w' ∧ ∃ ss', RefQ w' pr bl N K (updQ L i l) ss' := by
  have HF := Lib.hid (refFront_yes w pr bl N K L ss h hK hL i x l hi hx)
  have HR := Lib.hid (refRemove_yes w pr bl N K L ss h hK hL i x [] l hi hx hu)
  clear hu hx hL
  go_enter Try.func69, Try.ntmps69
  go_wp2_with fail
  refine HF.out.mono ?_
  rintro e w1 ⟨rfl, rfl⟩
  go_wp2_with fail
  refine HR.out.mono ?_
  rintro e w2 ⟨rfl, F, ss', h'⟩
  go_wp2_with fail
  go_ret2
  exact ⟨rfl, F, ss', h'⟩
end Go.Proofs.Ytgddmkgmpibpgaa
