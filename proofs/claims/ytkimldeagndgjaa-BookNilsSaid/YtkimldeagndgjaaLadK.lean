/- The ladder: Worth. -/
import Derived.Test.YtkimldeagndgjaaLadJ
import Derived.Test.YtkimldeagndgjaaRound
namespace Go.Proofs.Ytkimldeagndgjaa
set_option linter.unusedVariables false
set_option linter.unusedSimpArgs false
open Go.RowKit Go.Shelf
attribute [local go_sem] Oper.semAt_some

/-- What Worth tells. -/
def worthL (side lim : Int) : List Lvl → Int → Int
  | [], s => s
  | x :: r, s => if keyI side lim < keyI side x.price then s else if 4611686018427387904 < s + x.qty then 4611686018427387904 else worthL side lim r (s + x.qty)
def sumQ (l : List Lvl) : Int := (l.map (·.qty)).sum
theorem sumQ_snoc (l : List Lvl) (x : Lvl) : sumQ (l ++ [x]) = sumQ l + x.qty := by simp [sumQ]

theorem own_ex {α β : Type} {B : Nat} {I : α → β → World → Prop} (h : ∀ a, OwnFrom B (I a)) : OwnFrom B (fun s W => ∃ a, I a s W) := fun s A C row ⟨a, ha⟩ hg hr => ⟨a, h a s A C row ha hg hr⟩
theorem own_pure {β : Type} {B : Nat} (p : β → Prop) : OwnFrom B (fun (s : β) _ => p s) := fun _ _ _ _ hs _ _ => hs
theorem own_imp {β : Type} {B : Nat} {p : β → Prop} {Q : β → World → Prop} (h : OwnFrom B Q) : OwnFrom B (fun s W => p s → Q s W) := fun s A C r hs hg hr hp => h s A C r (hs hp) hg hr
theorem keeps_fr {S : List Nat} {W W' : World} {B : Nat} (h : Fr S W W') (hS : ∀ x ∈ S, x < B) : KeepsFrom B W W' :=
  ⟨h.size, fun k o hB hk _ => (h.block k (Array.getElem?_eq_some_iff.1 hk).1 (fun hx => by have := hS k hx; omega)).trans hk⟩
theorem fr_fresh {S : List Nat} {a b c : World} (k : Fr S b c) (hS : ∀ x ∈ S, a.heap.size ≤ x) (h : Fr [] a b) : Fr [] a c :=
  ⟨k.os.trans h.os, k.tape.trans h.tape, k.output.trans h.output, Nat.le_trans h.size k.size, fun i hi hn => (k.block i (Nat.lt_of_lt_of_le hi h.size) (fun hx => by have := hS i hx; omega)).trans (h.block i hi hn)⟩
theorem same_alloc {T : List Nat} {W : World} (hT : ∀ t ∈ T, t < W.heap.size) (o : Obj) : Same T W (W.alloc o) := ⟨by simp, fun k hk => Below.heap_alloc _ _ _ (hT k hk)⟩
theorem keeps_alloc {B : Nat} {W : World} (o : Obj) : KeepsFrom B W (W.alloc o) := keeps_fr (S := []) (Fr.alloc (Fr.refl _ _) o) (by simp)
theorem lvs_mem {f : Nat → Lvl} {n : Nat} {pre : List Lvl} {x : Lvl} (h : pre ++ [x] <+: lvs f n) : ∃ k, k < n ∧ x = f k := by
  have hm : x ∈ lvs f n := h.subset (by simp)
  simp only [lvs, List.mem_map, List.mem_range] at hm
  obtain ⟨k, hk, e⟩ := hm
  exact ⟨k, hk, e.symm⟩

theorem worth_nil (w : World) (lim : Int) :
    Calls Try.prog 108 #[.pointer none, .int .i64 lim] w fun e w' => e = .returned (.int .i64 0) ∧ Fr [] w w' := by
  refine callsIn_wide.1 (callsIn_of_wp_marks (n := 0) Try.func108 rfl trivial ?_ rfl)
  simp only [Try.ntmps108, List.size_toArray, List.length_cons, List.length_nil, Nat.reduceAdd, Nat.reduceSub, Array.replicate_succ, Array.replicate_zero, List.push_toArray, List.append_toArray, List.nil_append, List.cons_append]
  refine wpIn_wide.2 ?_
  go_wp2_with fail
  go_step3
  go_wp2_with fail
  go_step3
  go_wp2_with fail
  refine (lEach_mk _ (.pointer none) ⟨none, rfl⟩).mono ?_
  rintro e w2 ⟨rfl, hW⟩
  have F2 : Fr [] w w2 := Fr.eqv hW.symm (by with_reducible repeat (first | exact Fr.refl _ _ | assumption | apply Fr.drew | apply Fr.drewN | apply Fr.alloc | (apply Fr.step; assumption; (intro _ h; (first | exact h | (focus (simp_all; done))))) | (apply Fr.setIn; (first | exact List.mem_cons_self | exact List.mem_cons_of_mem _ List.mem_cons_self | exact List.mem_cons_of_mem _ (List.mem_cons_of_mem _ List.mem_cons_self) | exact List.mem_cons_of_mem _ (List.mem_cons_of_mem _ (List.mem_cons_of_mem _ List.mem_cons_self)))) | (apply Fr.setNew; (first | omega | (simp; omega)))))
  have B1 := Blk.box0 hW.symm
  have B4 := Blk.eqv hW.symm ((Blk.new ((w.alloc (.cells #[.pointer none] 133)).alloc (.cells #[.int .i64 lim] 2)) 2 #[.int .i64 0]).alloc _)
  simp only [World.size_alloc] at B1 B4
  clear hW
  go_wp2_with fail
  refine wp_name_act (fun A hA => ?_)
  have hA1 : A.eval (.tmp 9) = .func (.func 142) #[] #[.pointer (some ⟨w.heap.size + 1 + 1 + 1, 0, none⟩)] := by rw [hA]; rfl
  have l1 := F2.size
  have lb1 := B1.lt
  refine (wpIn_wide (n := 0)).1 (range_outer hA1 (enters_of Try.func142 (by kernel_rfl) rfl) (lEach_own_nil w2 _ [] B1) (Below.refl _ _) (fun _ => rfl) (by simp)
    (fun _ W => Fr [] w W ∧ Blk W (w.heap.size + 1 + 1) 2 #[.int .i64 0]) (fun _ _ _ => False) (fun _ _ _ _ => False) (OwnFrom.and (ownFrom_fr (by omega)) ((own_blk _ _ _).from _)) (fun _ _ _ _ _ h => h.elim) (fun _ _ _ _ _ _ h => h.elim) ⟨F2, B4⟩
    ?assign ?body ?done ?stop)
  case assign => intro l pre x W K _ h; exact absurd h.length_le (by simp)
  case body => intro l pre x a' W _ _ h; exact h.elim
  case stop => intro D c pre W _ _ h; exact h.elim
  case done =>
    rintro D W hD ⟨F3, B5⟩ hK
    subst hA
    clear hA1 F2 B1 B4
    have HK := Lib.hid hK
    clear hK
    have c5 := B5.cell
    have f5 := B5.frozen
    have l5 := B5.lt
    go_wp2_with fail
    have B6 : Blk (W.setCell ⟨w.heap.size + 1 + 1, 0, none⟩ (.int .i64 0)) (w.heap.size + 1 + 1) 2 #[.int .i64 0] := B5.same 0 _
    have F6 : Fr [] w (W.setCell ⟨w.heap.size + 1 + 1, 0, none⟩ (.int .i64 0)) := Fr.setNew (by omega) F3
    have HK6 := def_fr (Fr.setIn (o := 0) (u := .int .i64 0) List.mem_cons_self (Fr.refl [w.heap.size + 1 + 1] W)) HK.out (by intro h; rcases List.mem_singleton.1 h with rfl; omega)
    have c6 := (blk_put (o' := .deferred none) B6 HK6 rfl).cell 0
    refine ⟨by simp, .inl ⟨_, _, rfl, run_takeDeferred HK6, ?_⟩⟩
    refine ⟨.int .i64 0, ?_, rfl, (fr_put F6 (by omega))⟩
    simp [results, Try.f108, go_sem, c6]

set_option maxHeartbeats 1000000 in
theorem worth_any (w : World) (lp : Nat) (side most : Int) (v : Value) (u : Nat → Nat) (n : Nat) (f : Nat → Lvl) (h : LadI w lp side most v u n f) (lim : Int) (hl : In63 lim) :
    Calls Try.prog 108 #[.pointer (some ⟨lp, 0, none⟩), .int .i64 lim] w fun e w' => e = .returned (.int .i64 (worthL side lim (lvs f n) 0)) ∧ Fr [] w w' := by
  have HX := Lib.hid h
  have hlp := h.r.b.lt
  have hvl := Lib.hid h.lts
  clear h
  refine callsIn_wide.1 (callsIn_of_wp_marks (n := 0) Try.func108 rfl trivial ?_ rfl)
  simp only [Try.ntmps108, List.size_toArray, List.length_cons, List.length_nil, Nat.reduceAdd, Nat.reduceSub, Array.replicate_succ, Array.replicate_zero, List.push_toArray, List.append_toArray, List.nil_append, List.cons_append]
  refine wpIn_wide.2 ?_
  go_wp2_with fail
  go_step3
  go_wp2_with fail
  go_step3
  go_wp2_with fail
  refine (lEach_mk _ (.pointer (some ⟨lp, 0, none⟩)) ⟨_, rfl⟩).mono ?_
  rintro e w2 ⟨rfl, hW⟩
  have F2 : Fr [] w w2 := Fr.eqv hW.symm (by with_reducible repeat (first | exact Fr.refl _ _ | assumption | apply Fr.drew | apply Fr.drewN | apply Fr.alloc | (apply Fr.step; assumption; (intro _ h; (first | exact h | (focus (simp_all; done))))) | (apply Fr.setIn; (first | exact List.mem_cons_self | exact List.mem_cons_of_mem _ List.mem_cons_self | exact List.mem_cons_of_mem _ (List.mem_cons_of_mem _ List.mem_cons_self) | exact List.mem_cons_of_mem _ (List.mem_cons_of_mem _ (List.mem_cons_of_mem _ List.mem_cons_self)))) | (apply Fr.setNew; (first | omega | (simp; omega)))))
  have B1 := Blk.box0 hW.symm
  have B2 := Blk.eqv hW.symm ((((Blk.new w 133 #[.pointer (some ⟨lp, 0, none⟩)]).alloc (.cells #[.int .i64 lim] 2)).alloc (.cells #[.int .i64 0] 2)).alloc _)
  have B3 := Blk.eqv hW.symm (((Blk.new (w.alloc (.cells #[.pointer (some ⟨lp, 0, none⟩)] 133)) 2 #[.int .i64 lim]).alloc (.cells #[.int .i64 0] 2)).alloc _)
  have B4 := Blk.eqv hW.symm ((Blk.new ((w.alloc (.cells #[.pointer (some ⟨lp, 0, none⟩)] 133)).alloc (.cells #[.int .i64 lim] 2)) 2 #[.int .i64 0]).alloc _)
  simp only [World.size_alloc] at B1 B2 B3 B4
  clear hW
  go_wp2_with fail
  refine wp_name_act (fun A hA => ?_)
  have hA1 : A.eval (.tmp 9) = .func (.func 142) #[] #[.pointer (some ⟨w.heap.size + 1 + 1 + 1, 0, none⟩)] := by rw [hA]; rfl
  have l1 := F2.size
  have lb1 := B1.lt
  have hTT : ∀ t ∈ (w.heap.size + 1 + 1 + 1) :: lp :: v.ownBlock.toList, t < w2.heap.size := by
    intro t ht
    rcases List.mem_cons.1 ht with rfl | ht
    · omega
    rcases List.mem_cons.1 ht with rfl | ht
    · omega
    have := hvl.out t (by simpa using ht)
    omega
  refine (wpIn_wide (n := 0)).1 (range_outer hA1 (enters_of Try.func142 (by kernel_rfl) rfl)
    (lEach_own _ lp side most v u n f ((w.heap.size + 1 + 1 + 1) :: lp :: v.ownBlock.toList) (by intro x hx; rcases hx with rfl | rfl | hx <;> simp [*]) w2 B1 (HX.out.r.fr F2 (by simp) (by simp))) (Below.refl _ _) (fun _ => rfl)
    hTT
    (fun pre W => ((∀ rest, worthL side lim (pre ++ rest) 0 = worthL side lim rest (sumQ pre)) ∧ 0 ≤ sumQ pre ∧ sumQ pre ≤ 4611686018427387904) ∧ Fr [w.heap.size + 1 + 1] w2 W ∧ Blk W (w.heap.size + 1 + 1) 2 #[.int .i64 (sumQ pre)])
    (fun c pre W => ∃ s, ((c = .ret ∨ c = .exit 0) ∧ ∀ rest, worthL side lim (pre ++ rest) 0 = s) ∧ Fr [w.heap.size + 1 + 1] w2 W ∧ Blk W (w.heap.size + 1 + 1) 2 #[.int .i64 s])
    (fun pre x a' W => ∃ X, (w2.heap.size ≤ X ∧ a' = ⟨(A.tmps.setIfInBounds 10 (lvV x)).setIfInBounds 5 (.pointer (some ⟨X, 0, none⟩)), []⟩) ∧ ((∀ rest, worthL side lim (pre ++ rest) 0 = worthL side lim rest (sumQ pre)) ∧ 0 ≤ sumQ pre ∧ sumQ pre ≤ 4611686018427387904) ∧ Fr [w.heap.size + 1 + 1] w2 W ∧ Blk W (w.heap.size + 1 + 1) 2 #[.int .i64 (sumQ pre)] ∧ Blk W X 159 (lvL x).toArray)
    ?hI ?hIx ?hIa ⟨⟨fun rest => by simp [sumQ], by simp [sumQ], by simp [sumQ]⟩, Fr.refl _ _, by simpa [sumQ] using B4⟩
    ?assign ?body ?done ?stop)
  case hI => exact OwnFrom.and (own_pure _) (OwnFrom.and (ownFrom_fr (Nat.le_refl _)) ((own_blk _ _ (fun pre : List Lvl => #[.int .i64 (sumQ pre)])).from _))
  case hIx => exact fun c => own_ex fun s => OwnFrom.and (own_pure _) (OwnFrom.and (ownFrom_fr (Nat.le_refl _)) ((own_blk _ _ _).from _))
  case hIa => exact fun pre x => own_ex fun X => OwnFrom.and (own_pure _) (OwnFrom.and (own_pure _) (OwnFrom.and (ownFrom_fr (Nat.le_refl _)) (OwnFrom.and ((own_blk _ _ _).from _) ((own_blk _ _ _).from _))))
  case assign =>
    rintro l pre x W K ⟨hinv, F3, G4⟩ hpx hK
    subst hA
    simp only [List.setIfInBounds_toArray, List.set_cons_zero, List.set_cons_succ] at hK
    have HI := Lib.hid hinv
    have s3 := F3.size
    have l4 := G4.lt
    simp only [lvV]
    clear hinv B1 B2 B3 B4 hA1
    gi_wp2
    exact hK _ _ (keeps_alloc _) (same_alloc (fun t ht => by have := hTT t ht; omega) _) ⟨W.heap.size, ⟨s3, rfl⟩, HI.out, F3.alloc _, G4.alloc _, Blk.new _ _ _⟩
  case body =>
    rintro l pre x a' W hll _ ⟨X, ⟨hX, rfl⟩, hinv, F3, G4, GX⟩ hpx
    subst hA
    simp only [List.setIfInBounds_toArray, List.set_cons_zero, List.set_cons_succ]
    obtain ⟨k, hk, rfl⟩ := lvs_mem hpx
    have G2 := Blk.via F3 (by simp; omega) B2
    have G3 := Blk.via F3 (by simp) B3
    have HI := Lib.hid hinv
    have HQ := Lib.hid (HX.out.qty k hk)
    have c2 := G2.cell
    have c3 := G3.cell
    have c4 := G4.cell
    have f4 := G4.frozen
    have l4 := G4.lt
    have x0 : W.cell? ⟨X, 0, none⟩ = some (.int .i64 (f k).price) := (GX.cell 0).trans rfl
    have x1 : W.cell? ⟨X, 1, none⟩ = some (.int .i64 (f k).qty) := (GX.cell 1).trans rfl
    have BLW : ∀ W', Fr [w.heap.size + 1 + 1] W W' → BlkL W' lp side most v u := fun W' F => Blk.via ((F2.mono (S' := [w.heap.size + 1 + 1]) (by simp)).trans (F3.trans F)) (by simp; omega) HX.out.r.b
    have HK1 := Lib.hid (fun W' (F : Fr [w.heap.size + 1 + 1] W W') => key_any W' lp side most v u (BLW W' F) (f k).price (HX.out.r.in63 k hk))
    have HK2 := Lib.hid (fun W' (F : Fr [w.heap.size + 1 + 1] W W') => key_any W' lp side most v u (BLW W' F) lim hl)
    clear hinv B1 B2 B3 B4 hA1 BLW
    gi_wp2
    refine soft_round (by kernel_rfl) (fun ⟨_, _, h⟩ => h) (by kernel_rfl) (by kernel_rfl) ?_; (repeat (refine wpQuiet_step (fun K hK => ?_); (first | ((fail); go_simp; refine hK _ ?_; clear hK K) | (apply soft_do; (rfl); (focus (intro W hC; (have c2 := (Blk.via hC (by simp) G2).cell; have c3 := (Blk.via hC (by simp) G3).cell; have x0 := ((Blk.via hC (by simp) GX).cell 0).trans (show (lvL (f k)).toArray[0]? = some (.int .i64 (f k).price) from rfl)); go_simp; (first | (first | ((with_reducible refine (HK1.out _ (hC.mono (by simp))).mono ?_); rintro e w' ⟨rfl, rfl⟩; exact ⟨rfl, hC⟩) | ((with_reducible refine (HK2.out _ (hC.mono (by simp))).mono ?_); rintro e w' ⟨rfl, rfl⟩; exact ⟨rfl, hC⟩)) | done | rfl | exact ⟨rfl, rfl⟩))); (go_simp; refine hK _ ?_; clear hK K)) | (apply soft_skip; (rfl); (go_simp; refine hK _ ?_; clear hK K))))); refine wpQuiet_nil ?_
    intro W4 F4
    have D4 := Blk.via F4 (by simp) G4
    have DX := Blk.via F4 (by simp) GX
    have F5 := F3.trans (F4.mono (S' := [w.heap.size + 1 + 1]) (by simp))
    have d4 := D4.cell
    have g4 := D4.frozen
    have y1 : W4.cell? ⟨X, 1, none⟩ = some (.int .i64 (f k).qty) := (DX.cell 1).trans rfl
    have m4 := D4.lt
    have hKF : KeepsFrom w2.heap.size W W4 := keeps_fr F4 (by simp)
    have hKS : ∀ v, KeepsFrom w2.heap.size W (W4.setCell ⟨w.heap.size + 1 + 1, 0, none⟩ v) := fun v => hKF.trans (keeps_fr (Fr.setIn (S := [w.heap.size + 1 + 1]) List.mem_cons_self (Fr.refl _ _)) (by simp; omega))
    have HKS := Lib.hid hKS
    clear c2 c3 c4 f4 l4 x0 x1 G2 G3 G4 GX hKS
    have hFf : ∀ k, Fence.wide.fn k := fun _ => trivial
    have hFd : Fence.wide.depth = none := rfl
    have i1 := HI.out.2.1
    have i2 := HI.out.2.2
    have q1 := HQ.out.1
    have q2 := HQ.out.2
    by_cases hb : keyI side lim < keyI side (f k).price
    · have hcut : ∀ rest, worthL side lim (pre ++ [f k] ++ rest) 0 = sumQ pre := fun rest => by rw [List.append_assoc, HI.out.1]; show (if _ then _ else _) = _; rw [if_pos hb]
      have HC := Lib.hid hcut
      clear hcut
      gi_wp2
      exact ⟨hKF, _, ⟨.inr rfl, HC.out⟩, F5, D4⟩
    · have hgo : ∀ rest, worthL side lim (pre ++ [f k] ++ rest) 0 = if 4611686018427387904 < sumQ pre + (f k).qty then 4611686018427387904 else worthL side lim rest (sumQ pre + (f k).qty) := fun rest => by
        rw [List.append_assoc, HI.out.1]; show (if _ then _ else _) = _; rw [if_neg hb]; rfl
      have HG := Lib.hid hgo
      clear hgo
      by_cases hs : sumQ pre + (f k).qty ≤ 9223372036854775807
      · have HA := Lib.hid (fun w => add_in w (sumQ pre) (f k).qty ⟨by omega, by omega⟩ ⟨by omega, by omega⟩ ⟨by omega, hs⟩)
        gi_wp2
        refine (CallsIn.inRound l (callsIn_wide.2 (HA.out _))).mono ?_
        rintro e w' ⟨rfl, rfl⟩
        by_cases hs2 : 4611686018427387904 < sumQ pre + (f k).qty
        · gi_wp2
          exact ⟨HKS.out _, _, ⟨.inl rfl, fun rest => by rw [HG.out, if_pos hs2]⟩, Fr.setIn (by simp) F5, (D4.same 0 _).cast rfl⟩
        · gi_wp2
          refine ⟨HKS.out _, ?_, ⟨fun rest => by rw [HG.out, if_neg (by omega), sumQ_snoc], by rw [sumQ_snoc]; omega, by rw [sumQ_snoc]; omega⟩, Fr.setIn (by simp) F5, (D4.same 0 _).cast (by rw [sumQ_snoc]; rfl)⟩
          have FT : Fr [w.heap.size + 1 + 1] W (W4.setCell ⟨w.heap.size + 1 + 1, 0, none⟩ (.int .i64 (sumQ pre + (f k).qty))) := Fr.setIn List.mem_cons_self (F4.mono (by simp))
          refine Same.of_fr FT (fun t ht => ?_) (fun t ht => by have := hTT t ht; have := F3.size; omega)
          rcases List.mem_cons.1 ht with rfl | ht
          · simp
          rcases List.mem_cons.1 ht with rfl | ht
          · simp; omega
          have := hvl.out t (by simpa using ht)
          simp; omega
      · have HA := Lib.hid (fun w => add_out w (sumQ pre) (f k).qty ⟨by omega, by omega⟩ ⟨by omega, by omega⟩ (fun c => hs c.2))
        gi_wp2
        refine (CallsIn.inRound l (callsIn_wide.2 (HA.out _))).mono ?_
        rintro e w' ⟨rfl, rfl⟩
        gi_wp2
        exact ⟨HKS.out _, _, ⟨.inl rfl, fun rest => by rw [HG.out, if_pos (by omega)]⟩, Fr.setIn (by simp) F5, (D4.same 0 _).cast rfl⟩
  case done =>
    rintro D W hD ⟨hinv, F3, B5⟩ hK
    subst hA
    have hres : worthL side lim (lvs f n) 0 = sumQ (lvs f n) := by have := hinv.1 []; simpa [worthL] using this
    have HR := Lib.hid hres
    clear hA1 B1 B2 B3 B4 hinv hres
    have HK := Lib.hid hK
    clear hK
    have c5 := B5.cell
    have f5 := B5.frozen
    have l5 := B5.lt
    go_wp2_with fail
    have B6 : Blk (W.setCell ⟨w.heap.size + 1 + 1, 0, none⟩ (.int .i64 (sumQ (lvs f n)))) (w.heap.size + 1 + 1) 2 #[.int .i64 (sumQ (lvs f n))] := B5.same 0 _
    have F6 : Fr [] w (W.setCell ⟨w.heap.size + 1 + 1, 0, none⟩ (.int .i64 (sumQ (lvs f n)))) := Fr.setNew (by omega) (fr_fresh F3 (by simp; omega) F2)
    have HK6 := def_fr (Fr.setIn (o := 0) (u := .int .i64 (sumQ (lvs f n))) List.mem_cons_self (Fr.refl [w.heap.size + 1 + 1] W)) HK.out (by intro h; rcases List.mem_singleton.1 h with rfl; omega)
    have c6 := (blk_put (o' := .deferred none) B6 HK6 rfl).cell 0
    refine ⟨by simp, .inl ⟨_, _, rfl, run_takeDeferred HK6, ?_⟩⟩
    refine ⟨.int .i64 (sumQ (lvs f n)), ?_, by rw [HR.out], (fr_put F6 (by omega))⟩
    simp [results, Try.f108, go_sem, c6]
  case stop =>
    rintro D c pre W hD hpre ⟨s, ⟨hc, hcut⟩, F3, B5⟩ hK
    refine wpIn_wide.2 ?_
    subst hA
    have hres : worthL side lim (lvs f n) 0 = s := by
      obtain ⟨r, hr⟩ := hpre
      rw [← hr]; exact hcut r
    have HR := Lib.hid hres
    clear hA1 B1 B2 B3 B4 hcut hres
    have HK := Lib.hid hK
    clear hK
    have c5 := B5.cell
    have f5 := B5.frozen
    have l5 := B5.lt
    rcases hc with rfl | rfl
    · go_wp2_with fail
      have c6 := (blk_put (o' := .deferred none) B5 HK.out rfl).cell 0
      refine ⟨by simp, .inl ⟨_, _, rfl, run_takeDeferred HK.out, ?_⟩⟩
      refine ⟨.int .i64 s, ?_, by rw [HR.out], (fr_put (fr_fresh F3 (by simp; omega) F2) (by omega))⟩
      simp [results, Try.f108, go_sem, c6]
    · go_wp2_with fail
      have B6 : Blk (W.setCell ⟨w.heap.size + 1 + 1, 0, none⟩ (.int .i64 s)) (w.heap.size + 1 + 1) 2 #[.int .i64 s] := B5.same 0 _
      have F6 : Fr [] w (W.setCell ⟨w.heap.size + 1 + 1, 0, none⟩ (.int .i64 s)) := Fr.setNew (by omega) (fr_fresh F3 (by simp; omega) F2)
      have HK6 := def_fr (Fr.setIn (o := 0) (u := .int .i64 s) List.mem_cons_self (Fr.refl [w.heap.size + 1 + 1] W)) HK.out (by intro h; rcases List.mem_singleton.1 h with rfl; omega)
      have c6 := (blk_put (o' := .deferred none) B6 HK6 rfl).cell 0
      refine ⟨by simp, .inl ⟨_, _, rfl, run_takeDeferred HK6, ?_⟩⟩
      refine ⟨.int .i64 s, ?_, by rw [HR.out], (fr_put F6 (by omega))⟩
      simp [results, Try.f108, go_sem, c6]
end Go.Proofs.Ytkimldeagndgjaa
