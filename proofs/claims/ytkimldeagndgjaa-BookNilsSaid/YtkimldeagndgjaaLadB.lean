/- The ladder: New, Len, Best, Find, Fits. -/
import Derived.Test.YtkimldeagndgjaaLadA
namespace Go.Proofs.Ytkimldeagndgjaa
set_option linter.unusedVariables false
set_option linter.unusedSimpArgs false
open Go.RowKit

/-- A ladder in memory: the levels f 0 .. f (n - 1), the best one first. -/
structure LadR (w : World) (lp : Nat) (side most : Int) (v : Value) (u : Nat → Nat) (n : Nat) (f : Nat → Lvl) : Prop where
  b : BlkL w lp side most v u
  r : RowL w v n f
  hside : side = 0 ∨ side = 1
  hmost : 1 ≤ most ∧ most ≤ 200
  hn : (n : Int) ≤ most
  price : ∀ i, i < n → 1 ≤ (f i).price ∧ (f i).price ≤ 9223372036854775807
  sorted : ∀ i j, i < j → j < n → keyI side (f i).price < keyI side (f j).price

theorem LadR.in63 {w : World} {lp : Nat} {side most : Int} {v : Value} {u : Nat → Nat} {n : Nat} {f : Nat → Lvl} (h : LadR w lp side most v u n f) : ∀ i, i < n → In63 (f i).price := fun i hi => by
  have := h.price i hi
  unfold In63
  omega
theorem LadR.form {w : World} {lp : Nat} {side most : Int} {v : Value} {u : Nat → Nat} {n : Nat} {f : Nat → Lvl} (h : LadR w lp side most v u n f) : ∃ A cap, v = .slice A n cap := by
  rcases h.r with ⟨rfl, rfl⟩ | ⟨lb, cap, cur, rfl, _⟩
  · exact ⟨_, _, rfl⟩
  · exact ⟨_, _, rfl⟩
theorem LadR.fr {S : List Nat} {w w' : World} {lp : Nat} {side most : Int} {v : Value} {u : Nat → Nat} {n : Nat} {f : Nat → Lvl} (hf : Fr S w w') (h1 : lp ∉ S) (h2 : ∀ g, v.ownBlock = some g → g ∉ S) (h : LadR w lp side most v u n f) : LadR w' lp side most v u n f :=
  ⟨Blk.via hf h1 h.b, h.r.via hf h2, h.hside, h.hmost, h.hn, h.price, h.sorted⟩
theorem LadR.find {w : World} {lp : Nat} {side most : Int} {v : Value} {u : Nat → Nat} {n : Nat} {f : Nat → Lvl} (h : LadR w lp side most v u n f) (p : Int) (hp : In63 p) :
    Calls Try.prog 132 #[.pointer (some ⟨lp, 0, none⟩), .int .i64 p] w fun e w' => ∃ i : Nat, e = .returned (.tuple #[.int .i64 i, .bool (decide (i < n) && decide (keyI side (f i).price = keyI side p))]) ∧ Fr [] w w' ∧ Placed side n f p i :=
  place_any w lp side most v u n f h.b h.r (by have := h.hn; have := h.hmost; omega) h.in63 h.sorted p hp

theorem ladNew_yes (w : World) (side most : Int) (hs : side = 0 ∨ side = 1) (hm : 1 ≤ most ∧ most ≤ 200) :
    Calls Try.prog 81 #[.int .i64 side, .int .i64 most] w fun e w' => ∃ lp, w.heap.size ≤ lp ∧ e = .returned (.tuple #[.pointer (some ⟨lp, 0, none⟩), .int .i64 0]) ∧ Fr [] w w' ∧ LadR w' lp side most (.slice none 0 0) (fun _ => 0) 0 (fun _ => ⟨0, 0, 0, 0⟩) := by
  have m1 := hm.1
  have m2 := hm.2
  rcases hs with rfl | rfl
  all_goals
    go_enter Try.func81, Try.ntmps81
    go_wp2_with fail
    go_ret2
    refine ⟨w.heap.size, Nat.le_refl _, rfl, by with_reducible repeat (first | exact Fr.refl _ _ | assumption | apply Fr.drew | apply Fr.drewN | apply Fr.alloc | (apply Fr.step; assumption; (intro _ h; (first | exact h | (focus (simp_all; done))))) | (apply Fr.setIn; (first | exact List.mem_cons_self | exact List.mem_cons_of_mem _ List.mem_cons_self | exact List.mem_cons_of_mem _ (List.mem_cons_of_mem _ List.mem_cons_self) | exact List.mem_cons_of_mem _ (List.mem_cons_of_mem _ (List.mem_cons_of_mem _ List.mem_cons_self)))) | (apply Fr.setNew; (first | omega | (simp; omega)))), ?_⟩
    exact ⟨Blk.new _ _ _, .inl ⟨rfl, rfl⟩, by omega, hm, by omega, fun i hi => by omega, fun i j h1 h2 => by omega⟩

theorem ladLen_any (w : World) (lp : Nat) (side most : Int) (v : Value) (u : Nat → Nat) (n : Nat) (f : Nat → Lvl) (h : LadR w lp side most v u n f) :
    Calls Try.prog 140 #[.pointer (some ⟨lp, 0, none⟩)] w fun e w' => e = .returned (.int .i64 n) ∧ w = w' := by
  obtain ⟨A, cap, rfl⟩ := h.form
  have c := h.b.cell
  go_enter Try.func140, Try.ntmps140
  go_wp2_with fail
  go_ret
  exact ⟨rfl, rfl⟩
theorem ladLen_nil (w : World) :
    Calls Try.prog 140 #[.pointer none] w fun e w' => e = .returned (.int .i64 0) ∧ w = w' := by
  go_enter Try.func140, Try.ntmps140
  go_wp2_with fail
  go_ret
  exact ⟨rfl, rfl⟩

def lvV (x : Lvl) : Value := .agg #[.int .i64 x.price, .int .i64 x.qty, .int .i64 x.orders, .int .i64 x.queue]

/-- The cells of level i. -/
theorem LadR.lv {w : World} {lp : Nat} {side most : Int} {v : Value} {u : Nat → Nat} {n : Nat} {f : Nat → Lvl} (h : LadR w lp side most v u n f) {i : Nat} (hi : i < n) :
    ∃ lb cap cur, v = .slice (some ⟨lb, 0, none⟩) n cap ∧ n ≤ cap ∧ Blk w lb 159 cur ∧ w.cell? ⟨lb, i * 4, none⟩ = some (.int .i64 (f i).price) ∧ w.cell? ⟨lb, i * 4 + 1, none⟩ = some (.int .i64 (f i).qty) ∧
      w.cell? ⟨lb, i * 4 + 2, none⟩ = some (.int .i64 (f i).orders) ∧ w.cell? ⟨lb, i * 4 + 3, none⟩ = some (.int .i64 (f i).queue) := by
  rcases h.r with ⟨_, rfl⟩ | ⟨lb, cap, cur, rfl, h1, B, h2, h3⟩
  · omega
  · exact ⟨lb, cap, cur, rfl, h1, B, lvl_at0 B h3 hi, lvl_at B h3 hi (by omega), lvl_at B h3 hi (by omega), lvl_at B h3 hi (by omega)⟩

theorem best_yes (w : World) (lp : Nat) (side most : Int) (v : Value) (u : Nat → Nat) (n : Nat) (f : Nat → Lvl) (h : LadR w lp side most v u n f) (hn : 0 < n) :
    Calls Try.prog 93 #[.pointer (some ⟨lp, 0, none⟩)] w fun e w' => e = .returned (.tuple #[lvV (f 0), .bool true]) ∧ Fr [] w w' := by
  have HL := Lib.hid (fun w' (F : Fr [] w w') => ladLen_any w' lp side most v u n f (h.fr F (by simp) (by simp)))
  have c : w.cell? ⟨lp, 2, none⟩ = some v := (h.b.cell 2).trans rfl
  have l := h.b.lt
  obtain ⟨lb, cap, cur, rfl, hnc, B, m0, m1, m2, m3⟩ := h.lv hn
  have lB := B.lt
  have n1 : (0 : Int) < (n : Int) := by omega
  have nz : ((n : Int) == 0) = false := by simp; omega
  have f0 := B.frozen
  rw [Nat.zero_mul] at m0 m1 m2 m3
  rw [Nat.zero_add] at m1 m2 m3
  clear h
  go_enter Try.func93, Try.ntmps93
  go_wp2_with fail
  refine (HL.out _ (by with_reducible repeat (first | exact Fr.refl _ _ | assumption | apply Fr.drew | apply Fr.drewN | apply Fr.alloc | (apply Fr.step; assumption; (intro _ h; (first | exact h | (focus (simp_all; done))))) | (apply Fr.setIn; (first | exact List.mem_cons_self | exact List.mem_cons_of_mem _ List.mem_cons_self | exact List.mem_cons_of_mem _ (List.mem_cons_of_mem _ List.mem_cons_self) | exact List.mem_cons_of_mem _ (List.mem_cons_of_mem _ (List.mem_cons_of_mem _ List.mem_cons_self)))) | (apply Fr.setNew; (first | omega | (simp; omega)))))).mono ?_
  rintro e w1 ⟨rfl, rfl⟩
  go_wp2_with fail
  exact bodyPost_ret (v := .tuple #[lvV (f 0), .bool true]) (by simp [results, Try.results93, go_sem, lvV]) rfl ⟨rfl, by with_reducible repeat (first | exact Fr.refl _ _ | assumption | apply Fr.drew | apply Fr.drewN | apply Fr.alloc | (apply Fr.step; assumption; (intro _ h; (first | exact h | (focus (simp_all; done))))) | (apply Fr.setIn; (first | exact List.mem_cons_self | exact List.mem_cons_of_mem _ List.mem_cons_self | exact List.mem_cons_of_mem _ (List.mem_cons_of_mem _ List.mem_cons_self) | exact List.mem_cons_of_mem _ (List.mem_cons_of_mem _ (List.mem_cons_of_mem _ List.mem_cons_self)))) | (apply Fr.setNew; (first | omega | (simp; omega))))⟩

theorem best_no (w : World) (q : Value) (hq : ∀ w', Fr [] w w' → Calls Try.prog 140 #[q] w' fun e w'' => e = .returned (.int .i64 0) ∧ w' = w'') :
    Calls Try.prog 93 #[q] w fun e w' => e = .returned (.tuple #[lvV ⟨0, 0, 0, 0⟩, .bool false]) ∧ Fr [] w w' := by
  have HL := Lib.hid hq
  clear hq
  go_enter Try.func93, Try.ntmps93
  go_wp2_with fail
  refine (HL.out _ (by with_reducible repeat (first | exact Fr.refl _ _ | assumption | apply Fr.drew | apply Fr.drewN | apply Fr.alloc | (apply Fr.step; assumption; (intro _ h; (first | exact h | (focus (simp_all; done))))) | (apply Fr.setIn; (first | exact List.mem_cons_self | exact List.mem_cons_of_mem _ List.mem_cons_self | exact List.mem_cons_of_mem _ (List.mem_cons_of_mem _ List.mem_cons_self) | exact List.mem_cons_of_mem _ (List.mem_cons_of_mem _ (List.mem_cons_of_mem _ List.mem_cons_self)))) | (apply Fr.setNew; (first | omega | (simp; omega)))))).mono ?_
  rintro e w1 ⟨rfl, rfl⟩
  go_wp2_with fail
  exact bodyPost_ret (v := .tuple #[lvV ⟨0, 0, 0, 0⟩, .bool false]) (by simp [results, Try.results93, go_sem, lvV]) rfl ⟨rfl, by with_reducible repeat (first | exact Fr.refl _ _ | assumption | apply Fr.drew | apply Fr.drewN | apply Fr.alloc | (apply Fr.step; assumption; (intro _ h; (first | exact h | (focus (simp_all; done))))) | (apply Fr.setIn; (first | exact List.mem_cons_self | exact List.mem_cons_of_mem _ List.mem_cons_self | exact List.mem_cons_of_mem _ (List.mem_cons_of_mem _ List.mem_cons_self) | exact List.mem_cons_of_mem _ (List.mem_cons_of_mem _ (List.mem_cons_of_mem _ List.mem_cons_self)))) | (apply Fr.setNew; (first | omega | (simp; omega))))⟩

theorem keyI_inj {side a b : Int} (h : keyI side a = keyI side b) : a = b := by
  unfold keyI at h
  split at h <;> omega

/-- Where a price stands. -/
theorem placed_yes {side : Int} {n : Nat} {f : Nat → Lvl} {p : Int} {i j : Nat} (h : Placed side n f p i) (hs : ∀ i j, i < j → j < n → keyI side (f i).price < keyI side (f j).price) (hj : j < n) (hp : (f j).price = p) : i = j ∧ (decide (i < n) && decide (keyI side (f i).price = keyI side p)) = true := by
  subst hp
  have e : i = j := by
    rcases Nat.lt_trichotomy i j with c | c | c
    · have h1 := h.2.2 i (Nat.le_refl _) (by omega)
      have h2 := hs i j c hj
      omega
    · exact c
    · have := h.2.1 j c
      omega
  subst e
  simp [hj]
theorem placed_no {side : Int} {n : Nat} {f : Nat → Lvl} {p : Int} {i : Nat} (hno : ∀ j, j < n → (f j).price ≠ p) : (decide (i < n) && decide (keyI side (f i).price = keyI side p)) = false := by
  by_cases c : i < n
  · have : keyI side (f i).price ≠ keyI side p := fun e => hno i c (keyI_inj e)
    simp [this]
  · simp [c]

theorem find_yes (w : World) (lp : Nat) (side most : Int) (v : Value) (u : Nat → Nat) (n : Nat) (f : Nat → Lvl) (h : LadR w lp side most v u n f) (j : Nat) (hj : j < n) :
    Calls Try.prog 107 #[.pointer (some ⟨lp, 0, none⟩), .int .i64 (f j).price] w fun e w' => e = .returned (.tuple #[lvV (f j), .bool true]) ∧ Fr [] w w' := by
  have HP := Lib.hid (fun w' (F : Fr [] w w') => (h.fr F (by simp) (by simp)).find (f j).price (h.in63 j hj))
  have HX := Lib.hid (fun w' (F : Fr [] w w') => (h.fr F (by simp) (by simp)))
  have HSo := Lib.hid h.sorted
  clear h
  go_enter Try.func107, Try.ntmps107
  go_wp2_with fail
  have X0 : Blk (w.alloc (.cells #[.int .i64 0, .int .i64 0, .int .i64 0, .int .i64 0] 159)) w.heap.size 159 #[.int .i64 0, .int .i64 0, .int .i64 0, .int .i64 0] := Blk.new _ _ _
  refine (HP.out _ (by with_reducible repeat (first | exact Fr.refl _ _ | assumption | apply Fr.drew | apply Fr.drewN | apply Fr.alloc | (apply Fr.step; assumption; (intro _ h; (first | exact h | (focus (simp_all; done))))) | (apply Fr.setIn; (first | exact List.mem_cons_self | exact List.mem_cons_of_mem _ List.mem_cons_self | exact List.mem_cons_of_mem _ (List.mem_cons_of_mem _ List.mem_cons_self) | exact List.mem_cons_of_mem _ (List.mem_cons_of_mem _ (List.mem_cons_of_mem _ List.mem_cons_self)))) | (apply Fr.setNew; (first | omega | (simp; omega)))))).mono ?_
  rintro e w1 ⟨i, rfl, F1, hpl⟩
  obtain ⟨rfl, hb⟩ := placed_yes hpl HSo.out hj rfl
  rw [hb]
  have X1 := Blk.via F1 (by simp) X0
  have FF : Fr [] w w1 := by with_reducible repeat (first | exact Fr.refl _ _ | assumption | apply Fr.drew | apply Fr.drewN | apply Fr.alloc | (apply Fr.step; assumption; (intro _ h; (first | exact h | (focus (simp_all; done))))) | (apply Fr.setIn; (first | exact List.mem_cons_self | exact List.mem_cons_of_mem _ List.mem_cons_self | exact List.mem_cons_of_mem _ (List.mem_cons_of_mem _ List.mem_cons_self) | exact List.mem_cons_of_mem _ (List.mem_cons_of_mem _ (List.mem_cons_of_mem _ List.mem_cons_self)))) | (apply Fr.setNew; (first | omega | (simp; omega))))
  have H1 := HX.out _ FF
  have c : w1.cell? ⟨lp, 2, none⟩ = some v := (H1.b.cell 2).trans rfl
  obtain ⟨lb, cap, cur, rfl, hnc, B, m0, m1, m2, m3⟩ := H1.lv hj
  have i1 : (i : Int) < (n : Int) := by omega
  have x0 := X1.cell
  have xf := X1.frozen
  have lx := X1.lt
  clear H1 X0 F1
  go_wp2_with fail
  have XF := (((X1.same 0 (.int .i64 (f i).price)).same 1 (.int .i64 (f i).qty)).same 2 (.int .i64 (f i).orders)).same 3 (.int .i64 (f i).queue)
  have xc := XF.cell
  exact bodyPost_ret (v := .tuple #[lvV (f i), .bool true]) (by simp [results, Try.results107, go_sem, lvV, xc]) rfl ⟨rfl, by with_reducible repeat (first | exact Fr.refl _ _ | assumption | apply Fr.drew | apply Fr.drewN | apply Fr.alloc | (apply Fr.step; assumption; (intro _ h; (first | exact h | (focus (simp_all; done))))) | (apply Fr.setIn; (first | exact List.mem_cons_self | exact List.mem_cons_of_mem _ List.mem_cons_self | exact List.mem_cons_of_mem _ (List.mem_cons_of_mem _ List.mem_cons_self) | exact List.mem_cons_of_mem _ (List.mem_cons_of_mem _ (List.mem_cons_of_mem _ List.mem_cons_self)))) | (apply Fr.setNew; (first | omega | (simp; omega))))⟩

theorem find_no (w : World) (lp : Nat) (side most : Int) (v : Value) (u : Nat → Nat) (n : Nat) (f : Nat → Lvl) (h : LadR w lp side most v u n f) (p : Int) (hp : In63 p) (hno : ∀ j, j < n → (f j).price ≠ p) :
    Calls Try.prog 107 #[.pointer (some ⟨lp, 0, none⟩), .int .i64 p] w fun e w' => e = .returned (.tuple #[lvV ⟨0, 0, 0, 0⟩, .bool false]) ∧ Fr [] w w' := by
  have HP := Lib.hid (fun w' (F : Fr [] w w') => (h.fr F (by simp) (by simp)).find p hp)
  have HN := Lib.hid hno
  clear h hno
  go_enter Try.func107, Try.ntmps107
  go_wp2_with fail
  have X0 : Blk (w.alloc (.cells #[.int .i64 0, .int .i64 0, .int .i64 0, .int .i64 0] 159)) w.heap.size 159 #[.int .i64 0, .int .i64 0, .int .i64 0, .int .i64 0] := Blk.new _ _ _
  refine (HP.out _ (by with_reducible repeat (first | exact Fr.refl _ _ | assumption | apply Fr.drew | apply Fr.drewN | apply Fr.alloc | (apply Fr.step; assumption; (intro _ h; (first | exact h | (focus (simp_all; done))))) | (apply Fr.setIn; (first | exact List.mem_cons_self | exact List.mem_cons_of_mem _ List.mem_cons_self | exact List.mem_cons_of_mem _ (List.mem_cons_of_mem _ List.mem_cons_self) | exact List.mem_cons_of_mem _ (List.mem_cons_of_mem _ (List.mem_cons_of_mem _ List.mem_cons_self)))) | (apply Fr.setNew; (first | omega | (simp; omega)))))).mono ?_
  rintro e w1 ⟨i, rfl, F1, hpl⟩
  rw [placed_no HN.out]
  have X1 := Blk.via F1 (by simp) X0
  have FF : Fr [] w w1 := by with_reducible repeat (first | exact Fr.refl _ _ | assumption | apply Fr.drew | apply Fr.drewN | apply Fr.alloc | (apply Fr.step; assumption; (intro _ h; (first | exact h | (focus (simp_all; done))))) | (apply Fr.setIn; (first | exact List.mem_cons_self | exact List.mem_cons_of_mem _ List.mem_cons_self | exact List.mem_cons_of_mem _ (List.mem_cons_of_mem _ List.mem_cons_self) | exact List.mem_cons_of_mem _ (List.mem_cons_of_mem _ (List.mem_cons_of_mem _ List.mem_cons_self)))) | (apply Fr.setNew; (first | omega | (simp; omega))))
  have x0 := X1.cell
  have xf := X1.frozen
  have lx := X1.lt
  clear X0 F1
  go_wp2_with fail
  have XF := (((X1.same 0 (.int .i64 0)).same 1 (.int .i64 0)).same 2 (.int .i64 0)).same 3 (.int .i64 0)
  have xc := XF.cell
  exact bodyPost_ret (v := .tuple #[lvV ⟨0, 0, 0, 0⟩, .bool false]) (by simp [results, Try.results107, go_sem, lvV, xc]) rfl ⟨rfl, by with_reducible repeat (first | exact Fr.refl _ _ | assumption | apply Fr.drew | apply Fr.drewN | apply Fr.alloc | (apply Fr.step; assumption; (intro _ h; (first | exact h | (focus (simp_all; done))))) | (apply Fr.setIn; (first | exact List.mem_cons_self | exact List.mem_cons_of_mem _ List.mem_cons_self | exact List.mem_cons_of_mem _ (List.mem_cons_of_mem _ List.mem_cons_self) | exact List.mem_cons_of_mem _ (List.mem_cons_of_mem _ (List.mem_cons_of_mem _ List.mem_cons_self)))) | (apply Fr.setNew; (first | omega | (simp; omega))))⟩
theorem find_nil (w : World) (p : Int) :
    Calls Try.prog 107 #[.pointer none, .int .i64 p] w fun e w' => e = .returned (.tuple #[lvV ⟨0, 0, 0, 0⟩, .bool false]) ∧ Fr [] w w' := by
  go_enter Try.func107, Try.ntmps107
  go_wp2_with fail
  exact bodyPost_ret (v := .tuple #[lvV ⟨0, 0, 0, 0⟩, .bool false]) (by simp [results, Try.results107, go_sem, lvV]) rfl ⟨rfl, by with_reducible repeat (first | exact Fr.refl _ _ | assumption | apply Fr.drew | apply Fr.drewN | apply Fr.alloc | (apply Fr.step; assumption; (intro _ h; (first | exact h | (focus (simp_all; done))))) | (apply Fr.setIn; (first | exact List.mem_cons_self | exact List.mem_cons_of_mem _ List.mem_cons_self | exact List.mem_cons_of_mem _ (List.mem_cons_of_mem _ List.mem_cons_self) | exact List.mem_cons_of_mem _ (List.mem_cons_of_mem _ (List.mem_cons_of_mem _ List.mem_cons_self)))) | (apply Fr.setNew; (first | omega | (simp; omega))))⟩

theorem fits_nil (w : World) (p : Int) :
    Calls Try.prog 110 #[.pointer none, .int .i64 p] w fun e w' => e = .returned (.bool false) ∧ Fr [] w w' := by
  go_enter Try.func110, Try.ntmps110
  go_wp2_with fail
  go_ret
  exact ⟨rfl, Fr.refl _ _⟩
theorem fits_any (w : World) (lp : Nat) (side most : Int) (v : Value) (u : Nat → Nat) (n : Nat) (f : Nat → Lvl) (h : LadR w lp side most v u n f) (p : Int) (hp : In63 p) (b : Bool) (hb : ((∃ j, j < n ∧ (f j).price = p) ∨ (n : Int) < most) ↔ b = true) :
    Calls Try.prog 110 #[.pointer (some ⟨lp, 0, none⟩), .int .i64 p] w fun e w' => e = .returned (.bool b) ∧ Fr [] w w' := by
  have HP := Lib.hid (h.find p hp)
  obtain ⟨A, cap, rfl⟩ := h.form
  have HB := Lib.hid hb
  have HSo := Lib.hid h.sorted
  have HX := Lib.hid h
  clear h hb
  by_cases c : ∃ j, j < n ∧ (f j).price = p
  · go_enter Try.func110, Try.ntmps110
    go_wp2_with fail
    refine HP.out.mono ?_
    rintro e w1 ⟨i, rfl, F1, hpl⟩
    obtain ⟨j, hj, hpj⟩ := c
    rw [(placed_yes hpl HSo.out hj hpj).2]
    go_wp2_with fail
    go_quiet (fail)
    go_wp2_with fail
    go_ret
    exact ⟨ret_bool (by rw [HB.out.1 (.inl ⟨j, hj, hpj⟩)]), by with_reducible repeat (first | exact Fr.refl _ _ | assumption | apply Fr.drew | apply Fr.drewN | apply Fr.alloc | (apply Fr.step; assumption; (intro _ h; (first | exact h | (focus (simp_all; done))))) | (apply Fr.setIn; (first | exact List.mem_cons_self | exact List.mem_cons_of_mem _ List.mem_cons_self | exact List.mem_cons_of_mem _ (List.mem_cons_of_mem _ List.mem_cons_self) | exact List.mem_cons_of_mem _ (List.mem_cons_of_mem _ (List.mem_cons_of_mem _ List.mem_cons_self)))) | (apply Fr.setNew; (first | omega | (simp; omega))))⟩
  · have hno : ∀ j, j < n → (f j).price ≠ p := fun j hj e => c ⟨j, hj, e⟩
    have HN := Lib.hid hno
    clear hno
    have HC := Lib.hid c
    clear c
    go_enter Try.func110, Try.ntmps110
    go_wp2_with fail
    refine HP.out.mono ?_
    rintro e w1 ⟨i, rfl, F1, hpl⟩
    rw [placed_no HN.out]
    have c := (Blk.via F1 (by simp) HX.out.b).cell
    go_wp2_with fail
    go_quiet (fail)
    go_wp2_with fail
    go_ret
    refine ⟨ret_bool ?_, by with_reducible repeat (first | exact Fr.refl _ _ | assumption | apply Fr.drew | apply Fr.drewN | apply Fr.alloc | (apply Fr.step; assumption; (intro _ h; (first | exact h | (focus (simp_all; done))))) | (apply Fr.setIn; (first | exact List.mem_cons_self | exact List.mem_cons_of_mem _ List.mem_cons_self | exact List.mem_cons_of_mem _ (List.mem_cons_of_mem _ List.mem_cons_self) | exact List.mem_cons_of_mem _ (List.mem_cons_of_mem _ (List.mem_cons_of_mem _ List.mem_cons_self)))) | (apply Fr.setNew; (first | omega | (simp; omega))))⟩
    by_cases d : (n : Int) < most
    · rw [HB.out.1 (.inr d)]; simpa using d
    · have : b = false := by
        cases hb : b
        · rfl
        · rcases HB.out.2 hb with h | h
          · exact absurd h HC.out
          · exact absurd h d
      rw [this]; simpa using d
end Go.Proofs.Ytkimldeagndgjaa
