/- The ladder: its key, its search, its place. -/
import Derived.Test.YtkimldeagndgjaaProg
import Derived.Test.YtkimldeagndgjaaApp
import Derived.Test.YtkimldeagndgjaaUntil
import Derived.Deep.DeepCutAuto
import Derived.Deep.RegionHeld3
namespace Go.Proofs.Ytkimldeagndgjaa
set_option linter.unusedVariables false
set_option linter.unusedSimpArgs false
open Go.RowKit

structure Lvl where
  price : Int
  qty : Int
  orders : Int
  queue : Int
deriving DecidableEq

def lvC (f : Nat → Lvl) (i j : Nat) : Value := .int .i64 (match j with | 0 => (f i).price | 1 => (f i).qty | 2 => (f i).orders | _ => (f i).queue)

abbrev BlkL (w : World) (lp : Nat) (side most : Int) (v : Value) (u : Nat → Nat) : Prop :=
  Blk w lp 204 #[.int .i64 side, .int .i64 most, v, .int .u64 (u 0 : Int), .int .u64 (u 1 : Int), .int .u64 (u 2 : Int), .int .u64 (u 3 : Int)]

/-- Levels in memory. -/
def RowL (w : World) (v : Value) (n : Nat) (f : Nat → Lvl) : Prop :=
  (v = .slice none 0 0 ∧ n = 0) ∨ ∃ lb cap cur, v = .slice (some ⟨lb, 0, none⟩) n cap ∧ n ≤ cap ∧ Blk w lb 159 cur ∧ cur.size = cap * 4 ∧ ∀ i j, i < n → j < 4 → cur[i * 4 + j]? = some (lvC f i j)

theorem lvl_at {w : World} {lb n : Nat} {cur : Array Value} {f : Nat → Lvl} (B : Blk w lb 159 cur) (hc : ∀ i j, i < n → j < 4 → cur[i * 4 + j]? = some (lvC f i j)) {i : Nat} (hi : i < n) {j : Nat} (hj : j < 4) : w.cell? ⟨lb, i * 4 + j, none⟩ = some (lvC f i j) := (B.cell _).trans (hc i j hi hj)
theorem lvl_at0 {w : World} {lb n : Nat} {cur : Array Value} {f : Nat → Lvl} (B : Blk w lb 159 cur) (hc : ∀ i j, i < n → j < 4 → cur[i * 4 + j]? = some (lvC f i j)) {i : Nat} (hi : i < n) : w.cell? ⟨lb, i * 4, none⟩ = some (lvC f i 0) := by
  have := lvl_at B hc hi (show 0 < 4 by omega)
  simpa using this
def keyI (side p : Int) : Int := if side = 0 then -p else p
def In63 (p : Int) : Prop := -9223372036854775807 ≤ p ∧ p ≤ 9223372036854775807

theorem key_any (w : World) (lp : Nat) (side most : Int) (v : Value) (u : Nat → Nat) (h : BlkL w lp side most v u) (p : Int) (hp : In63 p) :
    Calls Try.prog 145 #[.pointer (some ⟨lp, 0, none⟩), .int .i64 p] w fun e w' => e = .returned (.int .i64 (keyI side p)) ∧ w = w' := by
  have c := h.cell
  have p1 := hp.1
  have p2 := hp.2
  by_cases hs : side = 0
  · subst hs
    go_enter Try.func145, Try.ntmps145
    go_wp2_with fail
    go_ret
    exact ⟨ret_int (by simp [keyI]), rfl⟩
  · have hs' : (side == 0) = false := by simpa using hs
    go_enter Try.func145, Try.ntmps145
    go_wp2_with fail
    go_ret
    exact ⟨ret_int (by simp [keyI, hs]), rfl⟩

def cmpI (a b : Int) : Int := if a < b then -1 else if b < a then 1 else 0

theorem place1_any (w : World) (lp bx : Nat) (side most : Int) (v : Value) (u : Nat → Nat) (h : BlkL w lp side most v u) (hx : Blk w bx 174 #[.func (.func 145) #[.pointer (some ⟨lp, 0, none⟩)] #[]])
    (p q o z k : Int) (hp : In63 p) :
    Calls Try.prog 163 #[.agg #[.int .i64 p, .int .i64 q, .int .i64 o, .int .i64 z], .int .i64 k, .pointer (some ⟨bx, 0, none⟩)] w fun e w' => e = .returned (.int .i64 (cmpI (keyI side p) k)) ∧ Fr [] w w' := by
  have HK := Lib.hid (fun w' (hf : Fr [] w w') => key_any w' lp side most v u (Blk.via hf (by simp) h) p hp)
  have c : w.cell? ⟨bx, 0, none⟩ = some (.func (.func 145) #[.pointer (some ⟨lp, 0, none⟩)] #[]) := (hx.cell 0).trans rfl
  have lx := hx.lt
  generalize keyI side p = a at HK ⊢
  rcases (show a < k ∨ (¬ a < k ∧ k < a) ∨ (¬ a < k ∧ ¬ k < a) by omega) with h1 | ⟨h1, h2⟩ | ⟨h1, h2⟩
  all_goals
    go_enter Try.func163, Try.ntmps163
    go_wp2_with fail
    refine (HK.out _ (by with_reducible repeat (first | exact Fr.refl _ _ | assumption | apply Fr.drew | apply Fr.drewN | apply Fr.alloc | (apply Fr.step; assumption; (intro _ h; (first | exact h | (focus (simp_all; done))))) | (apply Fr.setIn; (first | exact List.mem_cons_self | exact List.mem_cons_of_mem _ List.mem_cons_self | exact List.mem_cons_of_mem _ (List.mem_cons_of_mem _ List.mem_cons_self) | exact List.mem_cons_of_mem _ (List.mem_cons_of_mem _ (List.mem_cons_of_mem _ List.mem_cons_self)))) | (apply Fr.setNew; (first | omega | (simp; omega)))))).mono ?_
    rintro e w' ⟨rfl, rfl⟩
    go_wp2_with fail
    go_ret
    exact ⟨ret_int (by simp [cmpI]; omega), by with_reducible repeat (first | exact Fr.refl _ _ | assumption | apply Fr.drew | apply Fr.drewN | apply Fr.alloc | (apply Fr.step; assumption; (intro _ h; (first | exact h | (focus (simp_all; done))))) | (apply Fr.setIn; (first | exact List.mem_cons_self | exact List.mem_cons_of_mem _ List.mem_cons_self | exact List.mem_cons_of_mem _ (List.mem_cons_of_mem _ List.mem_cons_self) | exact List.mem_cons_of_mem _ (List.mem_cons_of_mem _ (List.mem_cons_of_mem _ List.mem_cons_self)))) | (apply Fr.setNew; (first | omega | (simp; omega))))⟩

/-- What the search says. -/
def Placed (side : Int) (n : Nat) (f : Nat → Lvl) (p : Int) (i : Nat) : Prop :=
  i ≤ n ∧ (∀ j, j < i → keyI side (f j).price < keyI side p) ∧ (∀ j, i ≤ j → j < n → keyI side p ≤ keyI side (f j).price)

set_option maxHeartbeats 4000000 in
set_option maxRecDepth 100000 in
theorem search_any (w : World) (lp bx : Nat) (side most : Int) (v : Value) (u : Nat → Nat) (n : Nat) (f : Nat → Lvl) (h : BlkL w lp side most v u) (hr : RowL w v n f) (hx : Blk w bx 174 #[.func (.func 145) #[.pointer (some ⟨lp, 0, none⟩)] #[]])
    (hn : n ≤ 1000) (hp : ∀ i, i < n → In63 (f i).price) (hs : ∀ i j, i < j → j < n → keyI side (f i).price < keyI side (f j).price) (p : Int) :
    Calls Try.prog 162 #[v, .int .i64 (keyI side p), .func (.func 163) #[] #[.pointer (some ⟨bx, 0, none⟩)]] w fun e w' => ∃ i : Nat, e = .returned (.tuple #[.int .i64 i, .bool (decide (i < n) && decide (keyI side (f i).price = keyI side p))]) ∧ Fr [] w w' ∧ Placed side n f p i := by
  have HP := Lib.hid hp
  have HS := Lib.hid hs
  clear hp hs
  have hv : ∃ A cap, v = .slice A n cap := by
    rcases hr with ⟨rfl, rfl⟩ | ⟨lb, cap, cur, rfl, _⟩
    · exact ⟨_, _, rfl⟩
    · exact ⟨_, _, rfl⟩
  obtain ⟨A, cap, rfl⟩ := hv
  have HR := Lib.hid hr
  have hn' : (n : Int) ≤ 1000 := by omega
  clear hr
  generalize hk : keyI side p = k
  have HKK := Lib.hid hk
  clear hk
  go_enter Try.func162, Try.ntmps162
  go_wp2_with fail
  go_loopw [9, 10] (fun s9 s10 wr => ∃ i j : Nat, s9 = .int .i64 i ∧ s10 = .int .i64 j ∧ i ≤ j ∧ j ≤ n ∧ Fr [] w wr ∧ (∀ a, a < i → keyI side (f a).price < k) ∧ (∀ a, j ≤ a → a < n → k ≤ keyI side (f a).price)) (fun s9 s10 _ => (intOf s10).toNat - (intOf s9).toNat)
  case atStart => exact ⟨0, n, rfl, rfl, by omega, by omega, Fr.refl _ _, fun a h => by omega, fun a h1 h2 => by omega⟩
  case round =>
    obtain ⟨i, j, rfl, rfl, hij, hjn, F, hlo, hhi⟩ := hrel
    have HLO := Lib.hid hlo
    have HHI := Lib.hid hhi
    clear hlo hhi
    by_cases hlt : i < j
    · have i1 : (i : Int) < (j : Int) := by omega
      obtain ⟨h0, _⟩ | ⟨lb, cap', cur, e, hnc, hB, hcs, hcur⟩ := HR.out
      · injection h0; omega
      injection e with e1 _ e2
      subst e1; subst e2
      have hm : (i + j) / 2 < cap := by omega
      have Bw := Blk.via F (by simp) hB
      have hmn : (i + j) / 2 < n := by omega
      have m0 := lvl_at0 Bw hcur hmn
      have m1 := lvl_at Bw hcur hmn (show 1 < 4 by omega)
      have m2 := lvl_at Bw hcur hmn (show 2 < 4 by omega)
      have m3 := lvl_at Bw hcur hmn (show 3 < 4 by omega)
      simp only [lvC] at m0 m1 m2 m3
      clear hcur hcs
      have hc := fun q => place1_any wr lp bx side most _ u (Blk.via F (by simp) h) (Blk.via F (by simp) hx) (f ((i + j) / 2)).price (f ((i + j) / 2)).qty (f ((i + j) / 2)).orders (f ((i + j) / 2)).queue q (HP.out _ hmn)
      have HC := Lib.hid hc
      clear hc hB Bw
      rcases (show keyI side (f ((i + j) / 2)).price < k ∨ k ≤ keyI side (f ((i + j) / 2)).price by omega) with hcm | hcm
      · have hcv : ∀ q, q = k → cmpI (keyI side (f ((i + j) / 2)).price) q = -1 := fun q e => by subst e; simp [cmpI, hcm]
        have HCV := Lib.hid hcv
        clear hcv
        go_wp2_with fail
        refine (HC.out k).mono ?_
        rintro e w1 ⟨rfl, F1⟩
        rw [HCV.out k rfl]
        have F2 := F.trans F1
        go_wp2_with fail
        go_roundw
        case rel =>
          refine ⟨(i + j) / 2 + 1, j, by rw [show ((i : Int) + (j : Int)) / 2 + 1 = (((i + j) / 2 + 1 : Nat) : Int) by omega], rfl, by omega, hjn, F2, fun a ha => ?_, HHI.out⟩
          by_cases c : a = (i + j) / 2
          · rw [c]; exact hcm
          · have := HS.out a ((i + j) / 2) (by omega) hmn; omega
        case measure => simp [intOf]; omega
      · have hcv : ∀ q, q = k → 0 ≤ cmpI (keyI side (f ((i + j) / 2)).price) q := fun q e => by subst e; simp only [cmpI]; split <;> (try split) <;> omega
        have hcv := hcv k rfl
        go_wp2_with fail
        refine (HC.out k).mono ?_
        rintro e w1 ⟨rfl, F1⟩
        generalize cmpI (keyI side (f ((i + j) / 2)).price) k = cc at hcv ⊢
        have F2 := F.trans F1
        go_wp2_with fail
        go_roundw
        case rel =>
          refine ⟨i, (i + j) / 2, rfl, by rw [show ((i : Int) + (j : Int)) / 2 = (((i + j) / 2 : Nat) : Int) by omega], by omega, by omega, F2, HLO.out, fun a h1 h2 => ?_⟩
          by_cases c : a = (i + j) / 2
          · rw [c]; exact hcm
          · have := HS.out ((i + j) / 2) a (by omega) h2; omega
        case measure => simp [intOf]; omega
    · obtain rfl : i = j := by omega
      by_cases hin : i < n
      · have i1 : (i : Int) < (n : Int) := by omega
        obtain ⟨h0, _⟩ | ⟨lb, cap', cur, e, hnc, hB, hcs, hcur⟩ := HR.out
        · injection h0; omega
        injection e with e1 _ e2
        subst e1; subst e2
        have hm : i < cap := by omega
        have Bw := Blk.via F (by simp) hB
        have m0 := lvl_at0 Bw hcur hin
        have m1 := lvl_at Bw hcur hin (show 1 < 4 by omega)
        have m2 := lvl_at Bw hcur hin (show 2 < 4 by omega)
        have m3 := lvl_at Bw hcur hin (show 3 < 4 by omega)
        simp only [lvC] at m0 m1 m2 m3
        clear hcur hcs
        have hc := fun q => place1_any wr lp bx side most _ u (Blk.via F (by simp) h) (Blk.via F (by simp) hx) (f i).price (f i).qty (f i).orders (f i).queue q (HP.out _ hin)
        have HC := Lib.hid hc
        clear hc hB Bw
        have hle := HHI.out i (by omega) hin
        go_wp2_with fail
        refine (HC.out k).mono ?_
        rintro e w1 ⟨rfl, F1⟩
        have F2 := F.trans F1
        generalize hcc : cmpI (keyI side (f i).price) k = cc
        have HCC := Lib.hid hcc
        clear hcc
        go_wp2_with fail
        go_ret2
        have hb : (cc == 0) = (decide (i < n) && decide (keyI side (f i).price = k)) := by
          rw [← HCC.out]
          by_cases c : keyI side (f i).price = k
          · simp [cmpI, c, hin]
          · have : k < keyI side (f i).price := by omega
            simp [cmpI, hin, c]
            omega
        exact ⟨i, by rw [← hb]; rfl, F2, by omega, fun a ha => by rw [HKK.out]; exact HLO.out a ha, fun a h1 h2 => by rw [HKK.out]; exact HHI.out a h1 h2⟩
      · have i1 : ¬ (i : Int) < (n : Int) := by omega
        go_wp2_with fail
        go_ret2
        have hb : (decide (i < n) && decide (keyI side (f i).price = k)) = false := by simp [hin]
        exact ⟨i, by rw [hb]; rfl, F, by omega, fun a ha => by rw [HKK.out]; exact HLO.out a ha, fun a h1 h2 => by rw [HKK.out]; exact HHI.out a h1 h2⟩

theorem RowL.via {S : List Nat} {w w' : World} {v : Value} {n : Nat} {f : Nat → Lvl} (hf : Fr S w w') (hS : ∀ g, v.ownBlock = some g → g ∉ S) (h : RowL w v n f) : RowL w' v n f := by
  rcases h with h | ⟨lb, cap, cur, rfl, h1, B, h2, h3⟩
  · exact .inl h
  · exact .inr ⟨lb, cap, cur, rfl, h1, Blk.via hf (hS lb rfl) B, h2, h3⟩

theorem place_any (w : World) (lp : Nat) (side most : Int) (v : Value) (u : Nat → Nat) (n : Nat) (f : Nat → Lvl) (h : BlkL w lp side most v u) (hr : RowL w v n f)
    (hn : n ≤ 1000) (hp : ∀ i, i < n → In63 (f i).price) (hs : ∀ i j, i < j → j < n → keyI side (f i).price < keyI side (f j).price) (p : Int) (hpp : In63 p) :
    Calls Try.prog 132 #[.pointer (some ⟨lp, 0, none⟩), .int .i64 p] w fun e w' => ∃ i : Nat, e = .returned (.tuple #[.int .i64 i, .bool (decide (i < n) && decide (keyI side (f i).price = keyI side p))]) ∧ Fr [] w w' ∧ Placed side n f p i := by
  have hmf : ∀ (fn : Fn) (first cap : Array Value) (w : World), (Instr.makeFunc fn first cap).run Try.prog w = .ok (.func fn first cap) w := fun _ _ _ _ => rfl
  have hst : ∀ (a : Addr) (fn : Fn) (first cap : Array Value) (w : World), (store a (.func fn first cap)).run Try.prog w = stored Try.prog w a (.func fn first cap) .plain := fun a fn first cap w => run_store Try.prog w a _ .plain rfl
  have HS := Lib.hid (fun (w' : World) (bx : Nat) (F : Fr [] w w') hx => search_any w' lp bx side most v u n f (Blk.via F (by simp) h) (hr.via F (by simp)) hx hn hp hs p)
  have HKY := Lib.hid (fun (w' : World) (F : Fr [] w w') => key_any w' lp side most v u (Blk.via F (by simp) h) p hpp)
  have c : w.cell? ⟨lp, 2, none⟩ = some v := (h.cell 2).trans rfl
  have l := h.lt
  clear hp hs hr
  go_enter Try.func132, Try.ntmps132
  go_wp2_with fail
  generalize hu : w.alloc (.cells #[.func (.func 145) #[.pointer (some ⟨lp, 0, none⟩)] #[]] 174) = w0
  have F0 : Fr [] w w0 := by rw [← hu]; with_reducible repeat (first | exact Fr.refl _ _ | assumption | apply Fr.drew | apply Fr.drewN | apply Fr.alloc | (apply Fr.step; assumption; (intro _ h; (first | exact h | (focus (simp_all; done))))) | (apply Fr.setIn; (first | exact List.mem_cons_self | exact List.mem_cons_of_mem _ List.mem_cons_self | exact List.mem_cons_of_mem _ (List.mem_cons_of_mem _ List.mem_cons_self) | exact List.mem_cons_of_mem _ (List.mem_cons_of_mem _ (List.mem_cons_of_mem _ List.mem_cons_self)))) | (apply Fr.setNew; (first | omega | (simp; omega))))
  have X0 : Blk w0 w.heap.size 174 #[.func (.func 145) #[.pointer (some ⟨lp, 0, none⟩)] #[]] := by rw [← hu]; exact Blk.new _ _ _
  have hSof : ∀ w', Fr [] w0 w' → w'.cell? ⟨lp, 2, none⟩ = some v ∧ w'.cell? ⟨w.heap.size, 0, none⟩ = some (.func (.func 145) #[.pointer (some ⟨lp, 0, none⟩)] #[]) :=
    fun w' F => ⟨((Blk.via (F0.trans F) (by simp) h).cell 2).trans rfl, ((Blk.via F (by simp) X0).cell 0).trans rfl⟩
  clear hu
  refine u_region (S := fun w' => w'.cell? ⟨lp, 2, none⟩ = some v ∧ w'.cell? ⟨w.heap.size, 0, none⟩ = some (.func (.func 145) #[.pointer (some ⟨lp, 0, none⟩)] #[])) 12 (by kernel_rfl) (by kernel_rfl) (by kernel_rfl) (by kernel_rfl) (by kernel_rfl) (hSof _ (Fr.drew (Fr.refl _ _))) ?_
  (refine u_take 0 (v := ?_) rfl rfl (by kernel_rfl) (by kernel_rfl) (fun _ _ _ h => h) (Or.inl ⟨by rfl, ?_⟩) ?_; rotate_left; (focus (intro wz hSw; (try dsimp only at hSw); go_simp; (try with_reducible rfl))); (try simp only [Act.put, List.getElem_toArray, List.getElem_cons_succ, List.getElem_cons_zero, List.setIfInBounds_toArray, List.set_cons_zero, List.set_cons_succ]))
  (refine u_take 1 (v := ?_) rfl rfl (by kernel_rfl) (by kernel_rfl) (fun _ _ _ h => h) (Or.inl ⟨by rfl, ?_⟩) ?_; rotate_left; (focus (intro wz hSw; (try dsimp only at hSw); go_simp; (try with_reducible rfl))); (try simp only [Act.put, List.getElem_toArray, List.getElem_cons_succ, List.getElem_cons_zero, List.setIfInBounds_toArray, List.set_cons_zero, List.set_cons_succ]))
  (refine u_take 2 (v := ?_) rfl rfl (by kernel_rfl) (by kernel_rfl) (fun _ _ _ h => h) (Or.inl ⟨by rfl, ?_⟩) ?_; rotate_left; (focus (intro wz hSw; (try dsimp only at hSw); go_simp; (try with_reducible rfl))); (try simp only [Act.put, List.getElem_toArray, List.getElem_cons_succ, List.getElem_cons_zero, List.setIfInBounds_toArray, List.set_cons_zero, List.set_cons_succ]))
  (refine u_take 3 (v := ?_) rfl rfl (by kernel_rfl) (by kernel_rfl) (fun _ _ _ h => h) (Or.inl ⟨by rfl, ?_⟩) ?_; rotate_left; (focus (intro wz hSw; (try dsimp only at hSw); go_simp; (try with_reducible rfl))); (try simp only [Act.put, List.getElem_toArray, List.getElem_cons_succ, List.getElem_cons_zero, List.setIfInBounds_toArray, List.set_cons_zero, List.set_cons_succ]))
  (refine u_take 4 (v := ?_) rfl rfl (by kernel_rfl) (by kernel_rfl) (fun _ _ _ h => h) (Or.inl ⟨by rfl, ?_⟩) ?_; rotate_left; (focus (intro wz hSw; (try dsimp only at hSw); go_simp; (try with_reducible rfl))); (try simp only [Act.put, List.getElem_toArray, List.getElem_cons_succ, List.getElem_cons_zero, List.setIfInBounds_toArray, List.set_cons_zero, List.set_cons_succ]))
  (refine u_take 5 (v := ?_) rfl rfl (by kernel_rfl) (by kernel_rfl) (fun _ _ _ h => h) (Or.inl ⟨by rfl, ?_⟩) ?_; rotate_left; (focus (intro wz hSw; (try dsimp only at hSw); go_simp; (try with_reducible rfl))); (try simp only [Act.put, List.getElem_toArray, List.getElem_cons_succ, List.getElem_cons_zero, List.setIfInBounds_toArray, List.set_cons_zero, List.set_cons_succ]))
  (refine u_take 7 (v := ?_) rfl rfl (by kernel_rfl) (by kernel_rfl) (fun _ _ _ h => h) (Or.inl ⟨by rfl, ?_⟩) ?_; rotate_left; (focus (intro wz hSw; (try dsimp only at hSw); go_simp; (try with_reducible rfl))); (try simp only [Act.put, List.getElem_toArray, List.getElem_cons_succ, List.getElem_cons_zero, List.setIfInBounds_toArray, List.set_cons_zero, List.set_cons_succ]))
  refine u_one 6 (by kernel_rfl) rfl rfl (fun Kq hKq => ?_)
  go_simp
  refine (HKY.out _ (F0.drew)).mono ?_
  rintro e w1 ⟨rfl, rfl⟩
  refine hKq _ _ (hSof _ (Fr.drew (Fr.refl _ _))) ?_
  clear hKq Kq
  (try simp only [Act.put, List.getElem_toArray, List.getElem_cons_succ, List.getElem_cons_zero, List.setIfInBounds_toArray, List.set_cons_zero, List.set_cons_succ])
  refine u_one 8 (by kernel_rfl) rfl rfl (fun Kq hKq => ?_)
  go_simp
  refine (HS.out _ _ (F0.drew) X0.drew).mono ?_
  rintro e w2 ⟨i, rfl, F2, hpl⟩
  have F3 : Fr [] w0 w2 := (Fr.drew (Fr.refl [] w0)).trans F2
  refine hKq _ _ (hSof _ F3) ?_
  clear hKq Kq
  (try simp only [Act.put, List.getElem_toArray, List.getElem_cons_succ, List.getElem_cons_zero, List.setIfInBounds_toArray, List.set_cons_zero, List.set_cons_succ])
  (refine u_take 9 (v := ?_) rfl rfl (by kernel_rfl) (by kernel_rfl) (fun _ _ _ h => h) (Or.inl ⟨by rfl, ?_⟩) ?_; rotate_left; (focus (intro wz hSw; (try dsimp only at hSw); go_simp; (try with_reducible rfl))); (try simp only [Act.put, List.getElem_toArray, List.getElem_cons_succ, List.getElem_cons_zero, List.setIfInBounds_toArray, List.set_cons_zero, List.set_cons_succ]))
  (refine u_take 10 (v := ?_) rfl rfl (by kernel_rfl) (by kernel_rfl) (fun _ _ _ h => h) (Or.inl ⟨by rfl, ?_⟩) ?_; rotate_left; (focus (intro wz hSw; (try dsimp only at hSw); go_simp; (try with_reducible rfl))); (try simp only [Act.put, List.getElem_toArray, List.getElem_cons_succ, List.getElem_cons_zero, List.setIfInBounds_toArray, List.set_cons_zero, List.set_cons_succ]))
  (refine u_take 11 (v := ?_) rfl rfl (by kernel_rfl) (by kernel_rfl) (fun _ _ _ h => h) (Or.inl ⟨by rfl, ?_⟩) ?_; rotate_left; (focus (intro wz hSw; (try dsimp only at hSw); go_simp; (try with_reducible rfl))); (try simp only [Act.put, List.getElem_toArray, List.getElem_cons_succ, List.getElem_cons_zero, List.setIfInBounds_toArray, List.set_cons_zero, List.set_cons_succ]))
  refine u_last (by kernel_rfl) rfl (by kernel_rfl) ?_
  go_wp2_with fail
  go_ret2
  exact ⟨i, rfl, F0.trans F3, hpl⟩
end Go.Proofs.Ytkimldeagndgjaa
