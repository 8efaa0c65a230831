/- Words and contracts: BookS. -/
import Derived.Test.YtkimldeagndgjaaG3
import Derived.Test.YtkimldeagndgjaaG5
import Derived.Test.YtkimldeagndgjaaG6
/- A book's iterator: a side's orders by price and time, walked. -/
namespace Go.Proofs.Ytkimldeagndgjaa
set_option linter.unusedVariables false
set_option linter.unusedSimpArgs false
open Go.RowKit Go.Shelf
attribute [local go_sem] Oper.semAt_some

theorem AbsQ.same {S : List Nat} {w w' : World} {bq bn be N K : Nat} {L : Nat → List Nat} (hk : Same S w w') (h1 : bq ∈ S) (h2 : bn ∈ S) (h3 : be ∈ S) (h : AbsQ w bq bn be N K L) : AbsQ w' bq bn be N K L := by
  obtain ⟨nd, en, r, v⟩ := h
  exact ⟨nd, en, ⟨hk.blk h1 r.q, hk.blk h2 r.n, hk.blk h3 r.e, r.N1, r.N2, r.K1, r.K2⟩, v⟩
theorem ArI.same {S : List Nat} {w w' : World} {ba N : Nat} {fl : List Nat} {m : Nat → Option Ord} (hk : Same S w w') (h1 : ba ∈ S) (h : ArI w ba N fl m) : ArI w' ba N fl m := by
  obtain ⟨ord, nx, hb, hr⟩ := h.b
  exact ⟨⟨ord, nx, hk.blk h1 hb, hr⟩, h.nd, h.mem, h.out, h.N1, h.N2, h.len⟩
theorem own_same {β : Type} {T : List Nat} {B : Nat} {Wr : World} (hT : ∀ t ∈ T, t < Wr.heap.size) (hB : Wr.heap.size ≤ B) : OwnFrom B (fun (_ : β) W => Same T Wr W) :=
  fun _ A _ _ hs hg hr => ⟨Nat.le_trans hs.1 hg.size, fun k hk => (hg.block k (Nat.lt_of_lt_of_le (hT k hk) hs.1) (fun e => by have := (hr k e.symm).1; have := hT k hk; omega)).trans (hs.2 k hk)⟩
theorem own_keeps {β : Type} {B B' : Nat} {W0 : World} (hB : W0.heap.size ≤ B') : OwnFrom B' (fun (_ : β) W => KeepsFrom B W0 W) :=
  fun _ A _ _ hs hg hr => ⟨Nat.le_trans hs.size hg.size, fun k o hb hk hc => by
    have h1 := (Array.getElem?_eq_some_iff.1 hk).1
    exact (hg.block k (Nat.lt_of_lt_of_le h1 hs.size) (fun e => by have := (hr k e.symm).1; omega)).trans (hs.same k o hb hk hc)⟩
theorem own_grow {J : List Ord → World → Prop} {B : Nat} {pre : List Ord} {W W' : World} (hJ : OwnFrom B J) (h : J pre W) (hf : Fr [] W W') : J pre W' :=
  hJ _ _ _ none h ⟨hf.os, hf.tape, hf.output, hf.size, fun i hi _ => hf.block i hi (by simp)⟩ (by simp)

/-- The orders of the first j levels. -/
def flatO (s : Int) (f : Nat → Lvl) (T : List Nat) (ord : Nat → Ord) (j : Nat) : List Ord := ((List.range j).flatMap fun j => onL s (f j).price T ord).map ord
theorem flatO_succ (s : Int) (f : Nat → Lvl) (T : List Nat) (ord : Nat → Ord) (j : Nat) : flatO s f T ord (j + 1) = flatO s f T ord j ++ (onL s (f j).price T ord).map ord := by
  unfold flatO; rw [List.range_succ, List.flatMap_append, List.map_append]; simp
theorem flatO_prefix (s : Int) (f : Nat → Lvl) (T : List Nat) (ord : Nat → Ord) {j n : Nat} (h : j ≤ n) : flatO s f T ord j <+: flatO s f T ord n := by
  obtain ⟨d, rfl⟩ := Nat.exists_eq_add_of_le h
  induction d with
  | zero => exact List.prefix_refl _
  | succ d ih => exact (ih (by omega)).trans ⟨_, (flatO_succ s f T ord (j + d)).symm⟩
theorem flatO_in (s : Int) (f : Nat → Lvl) (T : List Nat) (ord : Nat → Ord) {j n : Nat} {p : List Nat} (h : j < n) (hp : p <+: onL s (f j).price T ord) : flatO s f T ord j ++ p.map ord <+: flatO s f T ord n := by
  obtain ⟨r, hr⟩ := hp
  refine List.IsPrefix.trans ⟨r.map ord, ?_⟩ (flatO_prefix s f T ord h)
  rw [flatO_succ, ← hr, List.map_append, List.append_assoc]
theorem lvs_at {f : Nat → Lvl} {n : Nat} {j : Nat} {x : Lvl} (h : lvs f j ++ [x] <+: lvs f n) : j < n ∧ x = f j := by
  have h1 := h.length_le
  simp only [List.length_append, lvs_len, List.length_singleton] at h1
  refine ⟨by omega, ?_⟩
  obtain ⟨r, hr⟩ := h
  have h2 : (lvs f n)[j]? = some x := by rw [← hr]; simp [lvs_len]
  rw [lvs, List.getElem?_map, List.getElem?_range h1] at h2
  simpa using h2.symm

theorem RoundIn.inRd {F : Fence} {n : Nat} {P : Program} {l0 : Nat} {f : FuncId} {tmps : Array Value} {assign body : Code} {w : World} {R : Ending → World → Prop} (l : Nat) (h : RoundIn F n P l0 f tmps assign body w R) : RoundIn (F.inRound l) n P l0 f tmps assign body w R := h
theorem wpIn_name_act {F : Fence} {n : Nat} {P : Program} {c : Code} {Q : Exit → Act → World → Prop} {a : Act} {w : World} (h : ∀ A, A = a → c.wpIn F n P Q A w) : c.wpIn F n P Q a w := h a rfl

set_option maxHeartbeats 2000000 in
theorem bEach_own (b1 b2 b N K : Nat) (D : List Nat) (L : List Ord) (s : Int) (hs : s = 0 ∨ s = 1) (Y : List Ord) (hY : OfL s L Y) (W0 : World) (h1 : Blk W0 b1 24 #[.pointer (some ⟨b, 0, none⟩)]) (h2 : Blk W0 b2 3 #[.int .i64 s]) (hB : BookI W0 b D N K L) :
    SeqM Try.prog 99 #[.pointer (some ⟨b1, 0, none⟩), .pointer (some ⟨b2, 0, none⟩)] (fun x : Ord => #[.agg x.a]) (b1 :: b2 :: D) Y W0 := by
  intro l J Jx W hb hJ hJx hJl hYd h0
  have h1 := h1.below hb h1.lt
  have h2 := h2.below hb h2.lt
  obtain ⟨ba, bi, bs, bm, so, lp, bq, bn, be, v, bc, fl, m, ix, T, ord, P, rfl⟩ := (hB.fr (Fr.of_below hb []) (by simp)).pick s hs
  obtain ⟨u, n, f, Lq, hl, hq, hlev, hhas, hrest⟩ := P.sd.ex
  have hU : flatO s f T ord n = Y := (slots_lev hl hhas).ofL.unique hY
  subst hU
  have c1 := h1.cell
  have c2 := h2.cell
  have HP := Lib.hid P
  have HL := Lib.hid hl
  have HQ := Lib.hid hq
  have HV := Lib.hid hlev
  have k1 := h1.lt
  have k2 := h2.lt
  have kP := P.blk.lt
  have HO := Lib.hid P.of
  clear P hl hq hlev hrest hB hY hs
  refine callsIn_wide.1 (callsIn_of_wp_marks (n := 0) Try.func99 rfl trivial ?_ rfl)
  simp only [Try.ntmps99, List.size_toArray, List.length_cons, List.length_nil, Nat.reduceAdd, Nat.reduceSub, Array.replicate_succ, Array.replicate_zero, List.push_toArray, List.append_toArray, List.nil_append, List.cons_append]
  refine wpIn_wide.2 ?_
  go_wp2_with fail
  go_step3
  go_wp2_with fail
  have q0 := (HP.out.blk.cell 0).trans HP.out.c0
  have hmf : ∀ (fn : Fn) (first cap : Array Value) (w : World), (Instr.makeFunc fn first cap).run Try.prog w = .ok (.func fn first cap) w := fun _ _ _ _ => rfl
  have hst : ∀ (a : Addr) (fn : Fn) (first cap : Array Value) (w : World), (store a (.func fn first cap)).run Try.prog w = stored Try.prog w a (.func fn first cap) .plain := fun a fn first cap w => run_store Try.prog w a _ .plain rfl
  refine (HO.out _).mono ?_
  rintro e w1 ⟨rfl, rfl⟩
  go_wp2_with fail
  refine wp_name (fun W3 hW => ?_)
  have B3 := Blk.box0 hW
  have B2 := Blk.box1 hW
  have B1 := Blk.box2 hW
  have F3 : Fr [] W W3 := Fr.eqv hW (by with_reducible repeat (first | exact Fr.refl _ _ | assumption | apply Fr.drew | apply Fr.drewN | apply Fr.alloc | (apply Fr.step; assumption; (intro _ h; (first | exact h | (focus (simp_all; done))))) | (apply Fr.setIn; (first | exact List.mem_cons_self | exact List.mem_cons_of_mem _ List.mem_cons_self | exact List.mem_cons_of_mem _ (List.mem_cons_of_mem _ List.mem_cons_self) | exact List.mem_cons_of_mem _ (List.mem_cons_of_mem _ (List.mem_cons_of_mem _ List.mem_cons_self)))) | (apply Fr.setNew; (first | omega | (simp; omega)))))
  have z3 : W3.heap.size = W.heap.size + 1 + 1 + 1 := by rw [hW]; simp
  simp only [World.size_alloc] at B1 B2 B3
  clear hW
  have q1 := ((Blk.via F3 (by simp) HP.out.blk).cell so).trans HP.out.c1
  have q4 := B2.cell
  go_step3
  go_wp2_with fail
  refine (lEach_mk _ (.pointer (some ⟨lp, 0, none⟩)) ⟨_, rfl⟩).mono ?_
  rintro e w2 ⟨rfl, hW⟩
  have B4 := Blk.box0 hW.symm
  have B3 := Blk.eqv hW.symm (B3.alloc _)
  have B2 := Blk.eqv hW.symm (B2.alloc _)
  have B1 := Blk.eqv hW.symm (B1.alloc _)
  have F2 : Fr [] W w2 := F3.trans (Fr.eqv hW.symm (by with_reducible repeat (first | exact Fr.refl _ _ | assumption | apply Fr.drew | apply Fr.drewN | apply Fr.alloc | (apply Fr.step; assumption; (intro _ h; (first | exact h | (focus (simp_all; done))))) | (apply Fr.setIn; (first | exact List.mem_cons_self | exact List.mem_cons_of_mem _ List.mem_cons_self | exact List.mem_cons_of_mem _ (List.mem_cons_of_mem _ List.mem_cons_self) | exact List.mem_cons_of_mem _ (List.mem_cons_of_mem _ (List.mem_cons_of_mem _ List.mem_cons_self)))) | (apply Fr.setNew; (first | omega | (simp; omega))))))
  have z2 : w2.heap.size = W.heap.size + 1 + 1 + 1 + 1 := by rw [← hW]; simp [z3]
  rw [z3] at B4
  clear hW q1 q4
  have hsub := HP.out.sub
  have hlt := HP.out.lt
  simp only [sideD, List.cons_append, List.nil_append, List.mem_cons] at hsub
  have mb : b ∈ D := hsub b (by simp)
  have ma : ba ∈ D := hsub ba (by simp)
  have ml : lp ∈ D := hsub lp (by simp)
  have mq : bq ∈ D := hsub bq (by simp)
  have mn : bn ∈ D := hsub bn (by simp)
  have me : be ∈ D := hsub be (by simp)
  have mv : ∀ g, v.ownBlock = some g → g ∈ D := fun g hg => hsub g (by simp [hg])
  have hSS : ∀ t ∈ b1 :: b2 :: D, t < w2.heap.size := by
    intro t ht
    rcases List.mem_cons.1 ht with rfl | ht
    · omega
    rcases List.mem_cons.1 ht with rfl | ht
    · omega
    have := hlt t ht; omega
  have bkS : ∀ Wc, Same (b1 :: b2 :: D) w2 Wc → Blk Wc b 139 bc := fun Wc h => h.blk (by simp [mb]) (Blk.via F2 (by simp) HP.out.blk)
  have laS : ∀ Wc, Same (b1 :: b2 :: D) w2 Wc → LadR Wc lp s K v u n f := fun Wc h => LadR.same h (by simp [ml]) (fun g hg => by simp [mv g hg]) (HL.out.r.fr F2 (by simp) (by simp))
  have quS : ∀ Wc, Same (b1 :: b2 :: D) w2 Wc → AbsQ Wc bq bn be N K Lq := fun Wc h => AbsQ.same h (by simp [mq]) (by simp [mn]) (by simp [me]) (HQ.out.fr F2 (by simp) (by simp) (by simp))
  have arS : ∀ Wc, Same (b1 :: b2 :: D) w2 Wc → ArI Wc ba N fl m := fun Wc h => ArI.same h (by simp [ma]) (HP.out.a.fr F2 (by simp))
  have HbkS := Lib.hid bkS
  have HlaS := Lib.hid laS
  have HquS := Lib.hid quS
  have HarS := Lib.hid arS
  clear bkS laS quS arS hsub
  go_wp2_with fail
  refine wp_name_act (fun A hA => ?_)
  have hA1 : A.eval (.tmp 24) = .func (.func 142) #[] #[.pointer (some ⟨W.heap.size + 1 + 1 + 1, 0, none⟩)] := by rw [hA]; rfl
  have hTT : ∀ t ∈ (W.heap.size + 1 + 1 + 1) :: lp :: v.ownBlock.toList, t < w2.heap.size := by
    intro t ht
    rcases List.mem_cons.1 ht with rfl | ht
    · omega
    rcases List.mem_cons.1 ht with rfl | ht
    · have := hlt t ml; omega
    have := hlt t (mv t (by simpa using ht)); omega
  have j0 : J [] [] w2 := own_grow (hJ []) h0 F2
  refine (wpIn_wide (n := 0)).1 (range_outer hA1 (enters_of Try.func142 (by kernel_rfl) rfl)
    (lEach_own _ lp s K v u n f ((W.heap.size + 1 + 1 + 1) :: lp :: v.ownBlock.toList) (by intro x hx; rcases hx with rfl | rfl | hx <;> simp [*]) w2 B4 (HlaS.out w2 (Same.refl _ _))) (Below.refl _ _) (fun _ => rfl)
    hTT
    (fun pre Wc => ∃ (j : Nat) (M : List Nat), (pre = lvs f j ∧ j ≤ n ∧ W.heap.size ∉ M ∧ W.heap.size + 1 ∉ M ∧ W.heap.size + 1 + 1 ∉ M ∧ W.heap.size + 1 + 1 + 1 ∉ M) ∧ J M (flatO s f T ord j) Wc ∧ Blk Wc W.heap.size 127 #[.func (.yield l) #[] #[]] ∧ Blk Wc (W.heap.size + 1) 144 #[.pointer (some ⟨b, so, none⟩)] ∧
      Blk Wc (W.heap.size + 1 + 1) 60 #[.func (.func 95) #[.pointer (some ⟨ba, 0, none⟩)] #[]] ∧ Blk Wc (W.heap.size + 1 + 1 + 1) 133 #[.pointer (some ⟨lp, 0, none⟩)] ∧ Same (b1 :: b2 :: D) w2 Wc)
    (fun c pre Wc => ∃ M P0, (c = .exit 0 ∧ P0 <+: flatO s f T ord n) ∧ Jx M P0 Wc)
    (fun pre x a' Wc => ∃ (j : Nat) (M : List Nat) (X : Nat), (pre = lvs f j ∧ j < n ∧ x = f j ∧ W.heap.size ∉ M ∧ W.heap.size + 1 ∉ M ∧ W.heap.size + 1 + 1 ∉ M ∧ W.heap.size + 1 + 1 + 1 ∉ M ∧ a' = ⟨(A.tmps.setIfInBounds 25 (lvV (f j))).setIfInBounds 6 (.pointer (some ⟨X, 0, none⟩)), []⟩) ∧ J M (flatO s f T ord j) Wc ∧ Blk Wc W.heap.size 127 #[.func (.yield l) #[] #[]] ∧ Blk Wc (W.heap.size + 1) 144 #[.pointer (some ⟨b, so, none⟩)] ∧
      Blk Wc (W.heap.size + 1 + 1) 60 #[.func (.func 95) #[.pointer (some ⟨ba, 0, none⟩)] #[]] ∧ Blk Wc (W.heap.size + 1 + 1 + 1) 133 #[.pointer (some ⟨lp, 0, none⟩)] ∧ Same (b1 :: b2 :: D) w2 Wc ∧ Blk Wc X 159 (lvL (f j)).toArray)
    ?hI ?hIx ?hIa ⟨0, [], ⟨rfl, by omega, by simp, by simp, by simp, by simp⟩, j0, B1, B2, B3, B4, Same.refl _ _⟩
    ?assign ?body ?done ?stop)
  case hI => exact own_ex fun j => own_ex fun M => OwnFrom.and (own_pure _) (OwnFrom.and (fun _ A' C' r hs hg hr => own_up (hJ M) (show W.heap.size ≤ w2.heap.size by omega) _ A' C' r hs hg hr) (OwnFrom.and ((own_blk _ _ _).from _) (OwnFrom.and ((own_blk _ _ _).from _) (OwnFrom.and ((own_blk _ _ _).from _) (OwnFrom.and ((own_blk _ _ _).from _) (own_same hSS (Nat.le_refl _)))))))
  case hIx => exact fun c => own_ex fun M => own_ex fun P0 => OwnFrom.and (own_pure _) (fun _ A' C' r hs hg hr => own_up (hJx M) (show W.heap.size ≤ w2.heap.size by omega) _ A' C' r hs hg hr)
  case hIa => exact fun pre x => own_ex fun j => own_ex fun M => own_ex fun X => OwnFrom.and (own_pure _) (OwnFrom.and (fun _ A' C' r hs hg hr => own_up (hJ M) (show W.heap.size ≤ w2.heap.size by omega) _ A' C' r hs hg hr) (OwnFrom.and ((own_blk _ _ _).from _) (OwnFrom.and ((own_blk _ _ _).from _) (OwnFrom.and ((own_blk _ _ _).from _) (OwnFrom.and ((own_blk _ _ _).from _) (OwnFrom.and (own_same hSS (Nat.le_refl _)) ((own_blk _ _ _).from _)))))))
  case assign =>
    rintro l2 pre x Wc Kk ⟨j, M, ⟨rfl, hj, m1, m2, m3, m4⟩, hJc, C1, C2, C3, C4, hS⟩ hpx hK
    obtain ⟨hj, rfl⟩ := lvs_at hpx
    subst hA
    simp only [List.setIfInBounds_toArray, List.set_cons_zero, List.set_cons_succ] at hK
    simp only [lvV] at hK ⊢
    clear hA1 B1 B2 B3 B4
    gi_wp2
    refine hK _ _ (keeps_alloc _) (same_alloc (fun t ht => by have := hTT t ht; have := hS.1; omega) _) ⟨j, M, Wc.heap.size, ⟨rfl, hj, rfl, m1, m2, m3, m4, rfl⟩, ?_, C1.alloc _, C2.alloc _, C3.alloc _, C4.alloc _, hS.trans (same_alloc (fun t ht => Nat.lt_of_lt_of_le (hSS t ht) hS.1) _), Blk.new _ _ _⟩
    exact own_grow (hJ M) hJc (by with_reducible repeat (first | exact Fr.refl _ _ | assumption | apply Fr.drew | apply Fr.drewN | apply Fr.alloc | (apply Fr.step; assumption; (intro _ h; (first | exact h | (focus (simp_all; done))))) | (apply Fr.setIn; (first | exact List.mem_cons_self | exact List.mem_cons_of_mem _ List.mem_cons_self | exact List.mem_cons_of_mem _ (List.mem_cons_of_mem _ List.mem_cons_self) | exact List.mem_cons_of_mem _ (List.mem_cons_of_mem _ (List.mem_cons_of_mem _ List.mem_cons_self)))) | (apply Fr.setNew; (first | omega | (simp; omega)))))
  case done =>
    rintro Dd Wc hD ⟨j, M, ⟨hj, _⟩, hJc, _⟩ hK
    have hj : j = n := by have := congrArg List.length hj; rwa [lvs_len, lvs_len, eq_comm] at this
    subst hj
    subst hA
    have HK := Lib.hid hK
    clear hK hA1 B1 B2 B3 B4
    go_wp2_with fail
    refine ⟨by simp, .inl ⟨_, _, rfl, run_takeDeferred HK.out, ?_⟩⟩
    exact ⟨.tuple #[], results_none rfl _ _ _, ⟨_, rfl⟩, .inl ⟨M, (hJ M).putObj _ hJc (by omega) HK.out rfl⟩⟩
  case stop =>
    rintro Dd c pre Wc hD hpre ⟨M, P0, ⟨rfl, hP0⟩, hJc⟩ hK
    refine wpIn_wide.2 ?_
    subst hA
    have HK := Lib.hid hK
    clear hK hA1 B1 B2 B3 B4
    go_wp2_with fail
    refine ⟨by simp, .inl ⟨_, _, rfl, run_takeDeferred HK.out, ?_⟩⟩
    exact ⟨.tuple #[], results_none rfl _ _ _, ⟨_, rfl⟩, .inr ⟨M, P0, hP0, (hJx M).putObj _ hJc (by omega) HK.out rfl⟩⟩
  case body =>
    rintro l2 pre x a' Wc hll ⟨r2, hrec⟩ ⟨j, M, X, ⟨rfl, hj, rfl, m1, m2, m3, m4, rfl⟩, hJc, C1, C2, C3, C4, hS, CX⟩ hpx
    subst hA
    simp only [List.setIfInBounds_toArray, List.set_cons_zero, List.set_cons_succ]
    obtain ⟨k, e1, hk, e3, _⟩ := HV.out j hj
    have HE3 := Lib.hid e3
    have cc : Wc.cell? ⟨b, so + 1, none⟩ = some (.pointer (some ⟨bq, 0, none⟩)) := ((HbkS.out Wc hS).cell (so + 1)).trans HP.out.c2
    have cx : Wc.cell? ⟨X, 3, none⟩ = some (.int .i64 k) := (CX.cell 3).trans (show _ = some (Value.int .i64 k) by rw [← e1]; rfl)
    have sW := hS.1
    simp only [lvV]
    clear hA1 B1 B2 B3 B4 e1 e3
    gi_wp2
    refine u_round (S := fun w' => w'.cell? ⟨W.heap.size + 1, 0, none⟩ = some (.pointer (some ⟨b, so, none⟩)) ∧ w'.cell? ⟨b, so + 1, none⟩ = some (.pointer (some ⟨bq, 0, none⟩)) ∧ w'.cell? ⟨X, 3, none⟩ = some (.int .i64 k)) 6 (by kernel_rfl) (fun ⟨_, _, h⟩ => h) (by kernel_rfl) (by kernel_rfl) (by kernel_rfl) (by kernel_rfl) (by kernel_rfl) ⟨C2.drew.cell 0, cc, cx⟩ ?_
    clear cc cx
    (refine u_take 0 (v := ?_) rfl rfl (by kernel_rfl) (by kernel_rfl) (fun _ _ _ h => h) (Or.inl ⟨by rfl, ?_⟩) ?_; rotate_left; (focus (intro wz hSw; (try dsimp only at hSw); go_simp; (try with_reducible rfl))); (try simp only [Act.put, List.getElem_toArray, List.getElem_cons_succ, List.getElem_cons_zero, List.setIfInBounds_toArray, List.set_cons_zero, List.set_cons_succ]))
    (refine u_take 1 (v := ?_) rfl rfl (by kernel_rfl) (by kernel_rfl) (fun _ _ _ h => h) (Or.inl ⟨by rfl, ?_⟩) ?_; rotate_left; (focus (intro wz hSw; (try dsimp only at hSw); go_simp; (try with_reducible rfl))); (try simp only [Act.put, List.getElem_toArray, List.getElem_cons_succ, List.getElem_cons_zero, List.setIfInBounds_toArray, List.set_cons_zero, List.set_cons_succ]))
    (refine u_take 2 (v := ?_) rfl rfl (by kernel_rfl) (by kernel_rfl) (fun _ _ _ h => h) (Or.inl ⟨by rfl, ?_⟩) ?_; rotate_left; (focus (intro wz hSw; (try dsimp only at hSw); go_simp; (try with_reducible rfl))); (try simp only [Act.put, List.getElem_toArray, List.getElem_cons_succ, List.getElem_cons_zero, List.setIfInBounds_toArray, List.set_cons_zero, List.set_cons_succ]))
    (refine u_take 3 (v := ?_) rfl rfl (by kernel_rfl) (by kernel_rfl) (fun _ _ _ h => h) (Or.inl ⟨by rfl, ?_⟩) ?_; rotate_left; (focus (intro wz hSw; (try dsimp only at hSw); go_simp; (try with_reducible rfl))); (try simp only [Act.put, List.getElem_toArray, List.getElem_cons_succ, List.getElem_cons_zero, List.setIfInBounds_toArray, List.set_cons_zero, List.set_cons_succ]))
    (refine u_take 4 (v := ?_) rfl rfl (by kernel_rfl) (by kernel_rfl) (fun _ _ _ h => h) (Or.inl ⟨by rfl, ?_⟩) ?_; rotate_left; (focus (intro wz hSw; (try dsimp only at hSw); go_simp; (try with_reducible rfl))); (try simp only [Act.put, List.getElem_toArray, List.getElem_cons_succ, List.getElem_cons_zero, List.setIfInBounds_toArray, List.set_cons_zero, List.set_cons_succ]))
    (refine u_take 5 (v := ?_) rfl rfl (by kernel_rfl) (by kernel_rfl) (fun _ _ _ h => h) (Or.inl ⟨by rfl, ?_⟩) ?_; rotate_left; (focus (intro wz hSw; (try dsimp only at hSw); go_simp; (try with_reducible rfl))); (try simp only [Act.put, List.getElem_toArray, List.getElem_cons_succ, List.getElem_cons_zero, List.setIfInBounds_toArray, List.set_cons_zero, List.set_cons_succ]))
    refine u_last (by kernel_rfl) rfl (by kernel_rfl) ?_
    go_wp2_with fail
    refine (each_mk _ (.pointer (some ⟨bq, 0, none⟩)) k ⟨_, rfl⟩).mono ?_
    rintro e w5 ⟨rfl, hW⟩
    have zz : Wc.drew.heap.size = Wc.heap.size := rfl
    rw [zz]
    have B6 := Blk.box0 hW.symm
    have B5 := Blk.box1 hW.symm
    have F5 : Fr [] Wc w5 := Fr.eqv hW.symm (by with_reducible repeat (first | exact Fr.refl _ _ | assumption | apply Fr.drew | apply Fr.drewN | apply Fr.alloc | (apply Fr.step; assumption; (intro _ h; (first | exact h | (focus (simp_all; done))))) | (apply Fr.setIn; (first | exact List.mem_cons_self | exact List.mem_cons_of_mem _ List.mem_cons_self | exact List.mem_cons_of_mem _ (List.mem_cons_of_mem _ List.mem_cons_self) | exact List.mem_cons_of_mem _ (List.mem_cons_of_mem _ (List.mem_cons_of_mem _ List.mem_cons_self)))) | (apply Fr.setNew; (first | omega | (simp; omega)))))
    have z5 : w5.heap.size = Wc.heap.size + 1 + 1 := by rw [← hW]; simp [zz]
    simp only [World.size_alloc, zz] at B5 B6
    clear hW zz
    have D1 := Blk.via F5 (by simp) C1
    have D2 := Blk.via F5 (by simp) C2
    have D3 := Blk.via F5 (by simp) C3
    have D4 := Blk.via F5 (by simp) C4
    have s2 : Same (b1 :: b2 :: D) Wc w5 := Same.of_fr F5 (by simp) (fun t ht => Nat.lt_of_lt_of_le (hSS t ht) hS.1)
    have hS5 := hS.trans s2
    have j5 := own_grow (hJ M) hJc F5
    have hM5 := hJl M _ _ hJc
    have l1 := C1.lt
    have l2' := C2.lt
    have l3 := C3.lt
    have l4 := C4.lt
    have hlive : ∃ r, w5.heap[l2]? = some (.loop r) := ⟨r2, def_fr F5 hrec (by simp)⟩
    obtain ⟨r5, hr5⟩ := hlive
    have kf5 : KeepsFrom w2.heap.size Wc w5 := keeps_fr F5 (by simp)
    go_wp2_with fail
    gi_wp2
    refine wpIn_name_act (fun A2 hA2 => ?_)
    have hA3 : A2.eval (.tmp 32) = .func (.func 143) #[] #[.pointer (some ⟨Wc.heap.size, 0, none⟩), .pointer (some ⟨Wc.heap.size + 1, 0, none⟩)] := by rw [hA2]; rfl
    have hseq := each_own Wc.heap.size (Wc.heap.size + 1) bq bn be N K [Wc.heap.size, Wc.heap.size + 1, bq, bn, be] (by simp) Lq k hk w5 B5 B6 (HquS.out w5 hS5)
    rw [HE3.out] at hseq
    have hT2 : ∀ t ∈ [Wc.heap.size, Wc.heap.size + 1, bq, bn, be], t < w5.heap.size := by
      intro t ht
      have a1 := hlt bq mq
      have a2 := hlt bn mn
      have a3 := hlt be me
      simp only [List.mem_cons, List.not_mem_nil, or_false] at ht
      omega
    refine range_inner hr5 hA3 (enters_of Try.func143 (by kernel_rfl) rfl) hseq (Below.refl _ _) (fun _ => rfl) hT2
      (fun pre Wd => ∃ M', (W.heap.size ∉ M' ∧ W.heap.size + 1 ∉ M' ∧ W.heap.size + 1 + 1 ∉ M' ∧ W.heap.size + 1 + 1 + 1 ∉ M' ∧ Wc.heap.size ∉ M' ∧ Wc.heap.size + 1 ∉ M') ∧ J M' (flatO s f T ord j ++ pre.map ord) Wd ∧ Blk Wd W.heap.size 127 #[.func (.yield l) #[] #[]] ∧ Blk Wd (W.heap.size + 1) 144 #[.pointer (some ⟨b, so, none⟩)] ∧
        Blk Wd (W.heap.size + 1 + 1) 60 #[.func (.func 95) #[.pointer (some ⟨ba, 0, none⟩)] #[]] ∧ Blk Wd (W.heap.size + 1 + 1 + 1) 133 #[.pointer (some ⟨lp, 0, none⟩)] ∧ Blk Wd Wc.heap.size 134 #[.pointer (some ⟨bq, 0, none⟩)] ∧ Blk Wd (Wc.heap.size + 1) 3 #[.int .i64 k] ∧ Same (b1 :: b2 :: D) w2 Wd ∧ KeepsFrom w2.heap.size Wc Wd)
      (fun c pre Wd => ∃ M' P0, (c = .exit 0 ∧ P0 <+: flatO s f T ord n) ∧ Jx M' P0 Wd ∧ KeepsFrom w2.heap.size Wc Wd)
      (fun pre x a' Wd => ∃ M', (a' = ⟨(A2.tmps.setIfInBounds 33 (.int .i64 x)).setIfInBounds 7 (.int .i64 x), []⟩ ∧ W.heap.size ∉ M' ∧ W.heap.size + 1 ∉ M' ∧ W.heap.size + 1 + 1 ∉ M' ∧ W.heap.size + 1 + 1 + 1 ∉ M' ∧ Wc.heap.size ∉ M' ∧ Wc.heap.size + 1 ∉ M') ∧ J M' (flatO s f T ord j ++ pre.map ord) Wd ∧ Blk Wd W.heap.size 127 #[.func (.yield l) #[] #[]] ∧ Blk Wd (W.heap.size + 1) 144 #[.pointer (some ⟨b, so, none⟩)] ∧
        Blk Wd (W.heap.size + 1 + 1) 60 #[.func (.func 95) #[.pointer (some ⟨ba, 0, none⟩)] #[]] ∧ Blk Wd (W.heap.size + 1 + 1 + 1) 133 #[.pointer (some ⟨lp, 0, none⟩)] ∧ Blk Wd Wc.heap.size 134 #[.pointer (some ⟨bq, 0, none⟩)] ∧ Blk Wd (Wc.heap.size + 1) 3 #[.int .i64 k] ∧ Same (b1 :: b2 :: D) w2 Wd ∧ KeepsFrom w2.heap.size Wc Wd)
      ?hI ?hIx ?hIa ⟨M, ⟨m1, m2, m3, m4, fun h => by have := hM5 _ h; omega, fun h => by have := hM5 _ h; omega⟩, by simpa using j5, D1, D2, D3, D4, B5, B6, hS5, kf5⟩
      ?assign ?body ?done ?stop
    case hI => exact own_ex fun M => OwnFrom.and (own_pure _) (OwnFrom.and (fun _ A' C' r hs hg hr => own_up (hJ M) (show W.heap.size ≤ w5.heap.size by omega) _ A' C' r hs hg hr) (OwnFrom.and ((own_blk _ _ _).from _) (OwnFrom.and ((own_blk _ _ _).from _) (OwnFrom.and ((own_blk _ _ _).from _) (OwnFrom.and ((own_blk _ _ _).from _) (OwnFrom.and ((own_blk _ _ _).from _) (OwnFrom.and ((own_blk _ _ _).from _) (OwnFrom.and (own_same hSS (by omega)) (own_keeps (by omega))))))))))
    case hIx => exact fun c => own_ex fun M => own_ex fun P0 => OwnFrom.and (own_pure _) (OwnFrom.and (fun _ A' C' r hs hg hr => own_up (hJx M) (show W.heap.size ≤ w5.heap.size by omega) _ A' C' r hs hg hr) (own_keeps (by omega)))
    case hIa => exact fun pre x => own_ex fun M => OwnFrom.and (own_pure _) (OwnFrom.and (fun _ A' C' r hs hg hr => own_up (hJ M) (show W.heap.size ≤ w5.heap.size by omega) _ A' C' r hs hg hr) (OwnFrom.and ((own_blk _ _ _).from _) (OwnFrom.and ((own_blk _ _ _).from _) (OwnFrom.and ((own_blk _ _ _).from _) (OwnFrom.and ((own_blk _ _ _).from _) (OwnFrom.and ((own_blk _ _ _).from _) (OwnFrom.and ((own_blk _ _ _).from _) (OwnFrom.and (own_same hSS (by omega)) (own_keeps (by omega))))))))))
    case assign =>
      rintro l3 pre x Wd Kk ⟨M', ⟨n1, n2, n3, n4, n5, n6⟩, hR⟩ hpx2 hK
      subst hA2
      simp only [List.setIfInBounds_toArray, List.set_cons_zero, List.set_cons_succ] at hK ⊢
      clear hA3
      gi_wp2
      exact hK _ _ (KeepsFrom.refl _ _) (Same.refl _ _) ⟨M', ⟨rfl, n1, n2, n3, n4, n5, n6⟩, hR⟩
    case done =>
      rintro Wd ⟨M', ⟨n1, n2, n3, n4, n5, n6⟩, hJd, E1, E2, E3, E4, E5, E6, hSd, hkd⟩
      subst hA2
      clear hA3
      gi_wp2
      refine ⟨hkd, ⟨hkd.size, fun t ht => ?_⟩, j + 1, M', ⟨(lvs_succ f j).symm, by omega, n1, n2, n3, n4⟩, by rw [flatO_succ]; exact hJd, E1, E2, E3, E4, hSd⟩
      rcases List.mem_cons.1 ht with rfl | ht
      · exact Eq.trans E4 (Eq.symm C4)
      · have ht : t ∈ b1 :: b2 :: D := by
          rcases List.mem_cons.1 ht with rfl | ht
          · simp [ml]
          · simp [mv t (by simpa using ht)]
        exact (hSd.2 t ht).trans (hS.2 t ht).symm
    case stop =>
      rintro c pre Wd hpre2 ⟨M', P0, ⟨rfl, hP0⟩, hJd, hkd⟩
      subst hA2
      clear hA3
      gi_wp2
      exact ⟨hkd, M', P0, ⟨rfl, hP0⟩, hJd⟩
    case body =>
      rintro l3 pre x a' Wd hll3 ⟨r3, hrec3⟩ ⟨M', ⟨rfl, n1, n2, n3, n4, n5, n6⟩, hJd, E1, E2, E3, E4, E5, E6, hSd, hkd⟩ hpx2
      subst hA2
      simp only [List.setIfInBounds_toArray, List.set_cons_zero, List.set_cons_succ]
      clear hA3
      have hxm := onL_mem.1 (hpx2.subset (show x ∈ pre ++ [x] by simp))
      have hget := Lib.hid (fun W' (hf : Fr [] Wd W') => arGet_has W' ba N x fl m ((HarS.out Wd hSd).fr hf (by simp)) (ord x) (HP.out.mt x hxm.1))
      have e3 := E3.cell
      have hFf : ∀ k, Fence.wide.fn k := fun _ => trivial
      have hFd : Fence.wide.depth = none := rfl
      gi_wp2
      refine (CallsIn.inRound l3 (callsIn_wide.2 (hget.out _ (Fr.refl _ _)))).mono ?_
      rintro e w6 ⟨rfl, F6⟩
      clear e3
      have HXM := Lib.hid hxm
      clear hxm hget
      have G1 := Blk.via F6 (by simp) E1
      have hp2 : (flatO s f T ord j ++ pre.map ord) ++ [ord x] <+: flatO s f T ord n := by
        have := flatO_in s f T ord (j := j) (n := n) hj hpx2
        rwa [List.map_append, List.map_singleton, ← List.append_assoc] at this
      have F7 : Fr [] Wd (w6.alloc (.cells (ord x).a 43)) := F6.alloc _
      obtain ⟨fn, tmps, assign, body, hy, hR⟩ := hYd M' (flatO s f T ord j ++ pre.map ord) (ord x) (w6.alloc (.cells (ord x).a 43)) (own_grow (hJ M') hJd F7) hp2
      have g1 := G1.cell
      have gl := G1.lt
      gi_wp2
      refine (RoundIn.inRd l3 hR).mono ?_
      have w6 := F7.size
      have hMl := hJl M' _ _ hJd
      have kd7 : KeepsFrom W.heap.size Wd _ := keeps_fr F7 (by simp)
      rintro e W8 ⟨hk8, (⟨rfl, M8, hM8, hJ8, hkm⟩ | ⟨rfl, M8, hJ8⟩)⟩
      · have kE : ∀ g t cs, g < Wd.heap.size → g ∉ M' → W.heap.size ≤ g → Blk Wd g t cs → Blk W8 g t cs := fun g t cs hg hM hB b => hkm.blk hB hM (Blk.via F7 (by simp) b)
        have nM : ∀ g, g < Wd.heap.size → g ∉ M' → g ∉ M8 := fun g hg hM h => by rcases hM8 g h with e | e; exact hM e; omega
        have u1 := E1.lt
        have u2 := E2.lt
        have u3 := E3.lt
        have u4 := E4.lt
        have u5 := E5.lt
        have u6 := E6.lt
        have H1 := kE _ _ _ u1 n1 (by omega) E1
        have H2 := kE _ _ _ u2 n2 (by omega) E2
        have H3 := kE _ _ _ u3 n3 (by omega) E3
        have H4 := kE _ _ _ u4 n4 (by omega) E4
        have H5 := kE _ _ _ u5 n5 (by omega) E5
        have H6 := kE _ _ _ u6 n6 (by omega) E6
        have hS8 : Same (b1 :: b2 :: D) Wd W8 := ⟨Nat.le_trans F7.size hkm.1, fun t ht => (hkm.2.2 t ht).trans (F7.block t (Nat.lt_of_lt_of_le (hSS t ht) hSd.1) (by simp))⟩
        have hkk : KeepsFrom W.heap.size Wd W8 := kd7.trans hk8
        clear g1 gl
        gi_wp2
        refine ⟨keeps_up hkk (by omega), ⟨hS8.1, fun t ht => ?_⟩, M8, ⟨nM _ u1 n1, nM _ u2 n2, nM _ u3 n3, nM _ u4 n4, nM _ u5 n5, nM _ u6 n6⟩, by rw [List.map_append, List.map_singleton, ← List.append_assoc]; exact hJ8, H1, H2, H3, H4, H5, H6, hSd.trans hS8, hkd.trans (keeps_up hkk (by omega))⟩
        simp only [List.mem_cons, List.not_mem_nil, or_false] at ht
        rcases ht with rfl | rfl | rfl | rfl | rfl
        · exact Eq.trans H5 (Eq.symm E5)
        · exact Eq.trans H6 (Eq.symm E6)
        · exact hS8.2 _ (by simp [mq])
        · exact hS8.2 _ (by simp [mn])
        · exact hS8.2 _ (by simp [me])
      · have hkk : KeepsFrom W.heap.size Wd W8 := kd7.trans hk8
        clear g1 gl
        gi_wp2
        exact ⟨keeps_up hkk (by omega), M8, _, ⟨rfl, hp2⟩, hJ8, hkd.trans (keeps_up hkk (by omega))⟩
end Go.Proofs.Ytkimldeagndgjaa
