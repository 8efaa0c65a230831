/- A book: the first order of a side, and what a side is worth, walked. -/
import Derived.Test.YtkimldeagndgjaaBookE
import Derived.Outline
namespace Go.Proofs.Ytkimldeagndgjaa
set_option linter.unusedVariables false
set_option linter.unusedSimpArgs false
open Go.RowKit

/-- A side's orders in its order: by price, then by time. -/
def OfL (s : Int) (L Y : List Ord) : Prop := Y.Pairwise (fun a b => keyI s a.pr ≤ keyI s b.pr) ∧ ∀ p, Y.filter (fun a => decide (a.pr = p)) = L.filter (fun a => decide (a.sd = s ∧ a.pr = p))
theorem OfL.unique {s : Int} {L X Y : List Ord} (h : OfL s L X) (k : OfL s L Y) : X = Y := sorted_unique (cls := fun a : Ord => a.pr) h.1 k.1 fun p => (h.2 p).trans (k.2 p).symm
theorem SlotsOf.ofL {s : Int} {T : List Nat} {ord : Nat → Ord} {X : List Nat} (h : SlotsOf s T ord X) : OfL s (T.map ord) (X.map ord) := by
  refine ⟨List.pairwise_map.2 h.1, fun p => ?_⟩
  rw [List.filter_map, List.filter_map]
  have := h.2 p
  unfold onL at this
  exact congrArg (List.map ord) this
theorem SideI.slots {w : World} {s : Int} {lp : Nat} {v : Value} {bq bn be N K : Nat} {T : List Nat} {ord : Nat → Ord} (h : SideI w s lp v bq bn be N K T ord) : ∃ X, SlotsOf s T ord X := by
  obtain ⟨u, n, f, Lq, hl, hq, hlev, hhas, hrest⟩ := h.ex
  exact ⟨_, slots_lev hl hhas⟩

theorem wpList_storeO {ops : Array Oper} {rest : List Oper} {p : Oper} {a : Act} {w : World} {Q : Exit → Act → World → Prop} (hgd : p.guard = none) (x y : Operand) (hp : p.op = .store 43 x y)
    (g : Nat) (old : Array Value) (o : Ord) (hx : a.eval x = .pointer (some ⟨g, 0, none⟩)) (hy : a.eval y = .agg o.a) (B : Blk w g 43 old) (h1 : old.size = 7)
    (h : ∀ w', Blk w' g 43 o.a → Fr [g] w w' → wpList Try.prog ops Q rest (a.put p.dst undef) w') : wpList Try.prog ops Q (p :: rest) a w :=
  wpList_store_row hgd _ x y hp g _ hx hy _ _ B info_ord (by rw [h1]; rfl) (by simp [Value.oneCell'])
    (h _ (setRow_heap w g _ _ _ _ B) ⟨rfl, rfl, rfl, by simp [World.setRow], fun k _ hk => setRow_other w g k _ (fun e => hk (by simp [e]))⟩)
theorem wpList_loadO {ops : Array Oper} {rest : List Oper} {p : Oper} {a : Act} {w : World} {Q : Exit → Act → World → Prop} (hgd : p.guard = none) (x : Operand) (hp : p.op = .load 43 x)
    (g : Nat) (o : Ord) (hx : a.eval x = .pointer (some ⟨g, 0, none⟩)) (B : Blk w g 43 o.a) (h : wpList Try.prog ops Q rest (a.put p.dst (.agg o.a)) w) : wpList Try.prog ops Q (p :: rest) a w :=
  wpList_load_row hgd _ x hp g hx _ _ (0, 0) _ B Try.underlying43 rfl info_ord h
theorem fr_fresh2 {w w' w'' : World} {g : Nat} (hg : w.heap.size ≤ g) (h : Fr [] w w') (k : Fr [g] w' w'') : Fr [] w w'' :=
  ⟨k.os.trans h.os, k.tape.trans h.tape, k.output.trans h.output, Nat.le_trans h.size k.size, fun i hi _ => (k.block i (Nat.lt_of_lt_of_le hi h.size) (by simp; omega)).trans (h.block i hi (by simp))⟩
section
variable (w : World) (b ba lp bq bn be so : Nat) (v : Value) (N K : Nat) (fl : List Nat) (m : Nat → Option Ord) (T : List Nat) (ord : Nat → Ord) (s : Int) (bc : Array Value)
theorem bkFront_no (hbk : Blk w b 139 bc) (hb1 : bc[so]? = some (.pointer (some ⟨lp, 0, none⟩)))
    (hof : ∀ W, Calls Try.prog 83 #[.pointer (some ⟨b, 0, none⟩), .int .i64 s] W fun e W' => e = .returned (.pointer (some ⟨b, so, none⟩)) ∧ W = W')
    (hs : SideI w s lp v bq bn be N K T ord) (hX : SlotsOf s T ord []) :
    Calls Try.prog 30 #[.pointer (some ⟨b, 0, none⟩), .int .i64 s] w fun e w' => e = .returned (.tuple #[.agg ord0.a, .bool false]) ∧ Fr [] w w' := by
  have HB := Lib.hid (fun W (hf : Fr [] w W) => side_best_no W s lp v bq bn be N K T ord (hs.fr hf (by simp) (by simp) (by simp) (by simp) (by simp)) hX)
  have HO := Lib.hid hof
  clear hs hX hof
  go_enter Try.func30, Try.ntmps30
  go_wp2_with fail
  refine calls_named (fun W0 hW => ?_)
  have B0 := Blk.box0 hW
  have F0 : Fr [] w W0 := Fr.eqv hW (by with_reducible repeat (first | exact Fr.refl _ _ | assumption | apply Fr.drew | apply Fr.drewN | apply Fr.alloc | (apply Fr.step; assumption; (intro _ h; (first | exact h | (focus (simp_all; done))))) | (apply Fr.setIn; (first | exact List.mem_cons_self | exact List.mem_cons_of_mem _ List.mem_cons_self | exact List.mem_cons_of_mem _ (List.mem_cons_of_mem _ List.mem_cons_self) | exact List.mem_cons_of_mem _ (List.mem_cons_of_mem _ (List.mem_cons_of_mem _ List.mem_cons_self)))) | (apply Fr.setNew; (first | omega | (simp; omega)))))
  have K0 := Blk.via F0 (by simp) hbk
  clear hW
  refine (HO.out W0).mono ?_
  rintro e w1 ⟨rfl, rfl⟩
  have q1 := (K0.cell so).trans hb1
  go_wp2_with fail
  refine (HB.out W0 F0).mono ?_
  rintro e w2 ⟨rfl, F2⟩
  have B2 := Blk.via F2 (by simp) B0
  unfold lvV
  clear q1
  go_wp2_with (first
    | (refine wpList_storeO rfl (.tmp 4) (.tmp 26) rfl w.heap.size _ ord0 rfl rfl (B2.alloc _) rfl ?_
       intro w3 B3 F3)
    | (refine wpList_loadO rfl (.tmp 4) rfl w.heap.size ord0 rfl (B2.alloc _) ?_))
  have c3 := B3.cell
  exact bodyPost_ret (v := .tuple #[.agg ord0.a, .bool false]) (by simp [results, Try.results30, go_sem, c3]) rfl ⟨rfl, fr_fresh2 (Nat.le_refl _) ((F0.trans F2).alloc _) F3⟩
set_option maxHeartbeats 1000000 in
theorem bkFront_core (i : Nat) (r : List Nat) (hbk : Blk w b 139 bc) (hb0 : bc[0]? = some (.pointer (some ⟨ba, 0, none⟩))) (hb1 : bc[so]? = some (.pointer (some ⟨lp, 0, none⟩))) (hb2 : bc[so + 1]? = some (.pointer (some ⟨bq, 0, none⟩)))
    (hof : ∀ W, Calls Try.prog 83 #[.pointer (some ⟨b, 0, none⟩), .int .i64 s] W fun e W' => e = .returned (.pointer (some ⟨b, so, none⟩)) ∧ W = W')
    (ha : ArI w ba N fl m) (hm : m i = some (ord i)) (hs : SideI w s lp v bq bn be N K T ord) (hX : SlotsOf s T ord (i :: r)) :
    Calls Try.prog 30 #[.pointer (some ⟨b, 0, none⟩), .int .i64 s] w fun e w' => e = .returned (.tuple #[.agg (ord i).a, .bool true]) ∧ Fr [] w w' := by
  have HB := Lib.hid (fun W (hf : Fr [] w W) => side_best W s lp v bq bn be N K T ord (hs.fr hf (by simp) (by simp) (by simp) (by simp) (by simp)) i r hX)
  have HG := Lib.hid (fun W (hf : Fr [] w W) => arGet_has W ba N i fl m (ha.fr hf (by simp)) (ord i) hm)
  have HO := Lib.hid hof
  clear hs hX hof ha hm
  go_enter Try.func30, Try.ntmps30
  go_wp2_with fail
  refine calls_named (fun W0 hW => ?_)
  have B0 := Blk.box0 hW
  have F0 : Fr [] w W0 := Fr.eqv hW (by with_reducible repeat (first | exact Fr.refl _ _ | assumption | apply Fr.drew | apply Fr.drewN | apply Fr.alloc | (apply Fr.step; assumption; (intro _ h; (first | exact h | (focus (simp_all; done))))) | (apply Fr.setIn; (first | exact List.mem_cons_self | exact List.mem_cons_of_mem _ List.mem_cons_self | exact List.mem_cons_of_mem _ (List.mem_cons_of_mem _ List.mem_cons_self) | exact List.mem_cons_of_mem _ (List.mem_cons_of_mem _ (List.mem_cons_of_mem _ List.mem_cons_self)))) | (apply Fr.setNew; (first | omega | (simp; omega)))))
  have K0 := Blk.via F0 (by simp) hbk
  clear hW
  refine (HO.out W0).mono ?_
  rintro e w1 ⟨rfl, rfl⟩
  have q1 := (K0.cell so).trans hb1
  go_wp2_with fail
  refine (HB.out W0 F0).mono ?_
  rintro e w2 ⟨x, k, rfl, F2, hxp, hxk, hkK, hfr⟩
  have HFR := Lib.hid hfr
  have HXK := Lib.hid hxk
  clear hfr hxk q1
  have B2 := Blk.via F2 (by simp) B0
  have K2 := Blk.via F2 (by simp) K0
  unfold lvV
  go_wp2_with fail
  refine wp_name (fun W3 hW => ?_)
  have X3 := Blk.box0 hW
  have F3 : Fr [] w2 W3 := Fr.eqv hW (by with_reducible repeat (first | exact Fr.refl _ _ | assumption | apply Fr.drew | apply Fr.drewN | apply Fr.alloc | (apply Fr.step; assumption; (intro _ h; (first | exact h | (focus (simp_all; done))))) | (apply Fr.setIn; (first | exact List.mem_cons_self | exact List.mem_cons_of_mem _ List.mem_cons_self | exact List.mem_cons_of_mem _ (List.mem_cons_of_mem _ List.mem_cons_self) | exact List.mem_cons_of_mem _ (List.mem_cons_of_mem _ (List.mem_cons_of_mem _ List.mem_cons_self)))) | (apply Fr.setNew; (first | omega | (simp; omega)))))
  have B3 := Blk.via F3 (by simp) B2
  have K3 := Blk.via F3 (by simp) K2
  clear hW B2 K2 B0 K0
  have F03 := (F0.trans F2).trans F3
  have HQ : Hid (∀ W, Fr [] W3 W → Calls Try.prog 94 #[.pointer (some ⟨bq, 0, none⟩), .int .i64 k] W fun e W' => e = .returned (.tuple #[.int .i64 i, .bool true]) ∧ Fr [] W W') :=
    Lib.hid fun W hf => HFR.out W ((F2.trans F3).trans hf)
  refine wp_region_soft (by kernel_rfl) (by kernel_rfl) ?_; (repeat (refine wpQuiet_step (fun K hK => ?_); (first | ((fail); go_simp; refine hK _ ?_; clear hK K) | (apply soft_do; (rfl); (focus (intro W hC; (have q2 := ((Blk.via hC (by simp) K3).cell (so + 1)).trans hb2; have q5 := ((Blk.via hC (by simp) X3).cell 3).trans (show _ = some (Value.int .i64 k) by rw [HXK.out]; rfl)); go_simp; (first | (first | (go_at_call 94; refine (HQ.out _ hC).mono ?_; rintro e w2 ⟨rfl, hf⟩; exact ⟨rfl, hC.trans hf⟩)) | done | rfl | exact ⟨rfl, rfl⟩))); (go_simp; refine hK _ ?_; clear hK K)) | (apply soft_skip; (rfl); (go_simp; refine hK _ ?_; clear hK K))))); refine wpQuiet_nil ?_
  intro w4 F4
  have B4 := Blk.via F4 (by simp) B3
  have q0 := ((Blk.via F4 (by simp) K3).cell 0).trans hb0
  go_wp2_with fail
  refine (HG.out w4 (F03.trans F4)).mono ?_
  rintro e w5 ⟨rfl, F5⟩
  have B5 := Blk.via F5 (by simp) B4
  go_wp2_with (refine wpList_storeO rfl (.tmp 4) (.tmp 43) rfl w.heap.size _ (ord i) rfl rfl B5 rfl ?_
               intro w6 B6 F6)
  have c6 := B6.cell
  exact bodyPost_ret (v := .tuple #[.agg (ord i).a, .bool true]) (by simp [results, Try.results30, go_sem, c6]) rfl ⟨rfl, fr_fresh2 (Nat.le_refl _) ((F03.trans F4).trans F5) F6⟩
end
end Go.Proofs.Ytkimldeagndgjaa
