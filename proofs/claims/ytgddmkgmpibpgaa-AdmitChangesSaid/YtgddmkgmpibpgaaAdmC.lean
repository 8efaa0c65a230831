/- admit: whether an order's values may be, walked: the program's and the document's. -/
import Derived.Test.YtgddmkgmpibpgaaAdmB
import Derived.Shelf.Abstract
import Derived.Outline
namespace Go.Proofs.Ytgddmkgmpibpgaa
set_option linter.unusedVariables false
set_option linter.unusedSimpArgs false
open Go.RowKit Go.Shelf

/-- A symbol's cells: of them the grid matters. -/
structure IsSym (cs : Array Value) (g : Int) : Prop where
  size : cs.size = 16
  grid : cs[0]? = some (.int .i64 g)
theorem IsSym.at0 {cs : Array Value} {g : Int} (h : IsSym cs g) : cs[0]'(by rw [h.size]; omega) = .int .i64 g := (Array.getElem?_eq_some_iff.1 h.grid).2
theorem info_sym : (Try.prog.info? 25).map (·.size) = some 16 := by kernel_rfl
theorem wpList_loadSym {ops : Array Oper} {rest : List Oper} {o : Oper} {a : Act} {w : World} {Q : Exit → Act → World → Prop} (hgd : o.guard = none) (x : Operand) (ho : o.op = .load 25 x)
    (g : Nat) (hx : a.eval x = .pointer (some ⟨g, 0, none⟩)) (cs : Array Value) (B : Blk w g 25 cs) (hs : cs.size = 16) (h : wpList Try.prog ops Q rest (a.put o.dst (.agg cs)) w) : wpList Try.prog ops Q (o :: rest) a w :=
  wpList_load_row hgd _ x ho g hx _ _ (0, 0) _ B Try.underlying25 rfl (by rw [hs]; exact info_sym) h

abbrev ordA (id ow sd pr qt fl sq : Int) : Array Value := #[.int .i64 id, .int .i64 ow, .int .i64 sd, .int .i64 pr, .int .i64 qt, .int .i64 fl, .int .i64 sq]
def v1I (market : Bool) (pr g : Int) : Int := if market then (if pr == 0 then 0 else 9) else priceI pr g

theorem admPrice_any (w : World) (cs : Array Value) (g : Int) (hs : IsSym cs g) (id ow sd pr qt fl sq : Int) (m : Bool) (hp : In64 pr) (hg : In64 g) :
    Calls Try.prog 99 #[.agg cs, .agg #[.int .i64 id, .int .i64 ow, .int .i64 sd, .int .i64 pr, .int .i64 qt, .int .i64 fl, .int .i64 sq], .bool m] w fun e w' => e = .returned (.int .i64 (v1I m pr g)) ∧ Fr [] w w' := by
  have HS := Lib.hid hs
  have hsz := hs.size
  have HPr := Lib.hid (fun w => price_any w pr g hp hg)
  clear hs hp hg
  cases m with
  | true =>
    go_enter Try.func99, Try.ntmps99
    go_wp2_with fail
    refine (unless_any _ (pr == 0) 9).mono ?_
    rintro e w1 ⟨rfl, rfl⟩
    go_wp2_with fail
    all_goals
      go_ret
      exact ⟨ret_int (by simp [v1I, *]), by with_reducible repeat (first | exact Fr.refl _ _ | assumption | apply Fr.drew | apply Fr.drewN | apply Fr.alloc | (apply Fr.step; assumption; (intro _ h; (first | exact h | (focus (simp_all; done))))) | (apply Fr.setIn; (first | exact List.mem_cons_self | exact List.mem_cons_of_mem _ List.mem_cons_self | exact List.mem_cons_of_mem _ (List.mem_cons_of_mem _ List.mem_cons_self) | exact List.mem_cons_of_mem _ (List.mem_cons_of_mem _ (List.mem_cons_of_mem _ List.mem_cons_self)))) | (apply Fr.setNew; (first | omega | (simp; omega))))⟩
  | false =>
    have hgr := HS.out.at0
    go_enter Try.func99, Try.ntmps99
    go_wp2_with fail
    refine (HPr.out _).mono ?_
    rintro e w1 ⟨rfl, rfl⟩
    go_wp2_with fail
    go_ret
    exact ⟨rfl, by with_reducible repeat (first | exact Fr.refl _ _ | assumption | apply Fr.drew | apply Fr.drewN | apply Fr.alloc | (apply Fr.step; assumption; (intro _ h; (first | exact h | (focus (simp_all; done))))) | (apply Fr.setIn; (first | exact List.mem_cons_self | exact List.mem_cons_of_mem _ List.mem_cons_self | exact List.mem_cons_of_mem _ (List.mem_cons_of_mem _ List.mem_cons_self) | exact List.mem_cons_of_mem _ (List.mem_cons_of_mem _ (List.mem_cons_of_mem _ List.mem_cons_self)))) | (apply Fr.setNew; (first | omega | (simp; omega))))⟩

theorem values1_any (w : World) (g1 g2 g3 : Nat) (cs : Array Value) (g : Int) (hs : IsSym cs g) (id ow sd pr qt fl sq : Int) (m : Bool) (hp : In64 pr) (hg : In64 g) (B1 : Blk w g1 25 cs)
    (B2 : Blk w g2 32 #[.int .i64 id, .int .i64 ow, .int .i64 sd, .int .i64 pr, .int .i64 qt, .int .i64 fl, .int .i64 sq]) (B3 : Blk w g3 4 #[.bool m]) :
    Calls Try.prog 98 #[.pointer (some ⟨g1, 0, none⟩), .pointer (some ⟨g2, 0, none⟩), .pointer (some ⟨g3, 0, none⟩)] w fun e w' => e = .returned (.int .i64 (v1I m pr g)) ∧ Fr [] w w' := by
  have HP := Lib.hid (fun w => admPrice_any w cs g hs id ow sd pr qt fl sq m hp hg)
  have hsz := hs.size
  have c2 := B2.cell
  have c3 := B3.cell
  clear hs hp hg
  go_enter Try.func98, Try.ntmps98
  go_wp2_with (refine wpList_loadSym rfl (.tmp 0) rfl g1 rfl cs B1 hsz ?_)
  refine (HP.out _).mono ?_
  rintro e w1 ⟨rfl, F1⟩
  go_wp2_with fail
  go_ret
  exact ⟨rfl, F1⟩
theorem values2_any (w : World) (g2 : Nat) (id ow sd pr qt fl sq : Int) (B2 : Blk w g2 32 #[.int .i64 id, .int .i64 ow, .int .i64 sd, .int .i64 pr, .int .i64 qt, .int .i64 fl, .int .i64 sq]) :
    Calls Try.prog 100 #[.pointer (some ⟨g2, 0, none⟩)] w fun e w' => e = .returned (.int .i64 (qtyI qt)) ∧ Fr [] w w' := by
  have c2 := B2.cell
  go_enter Try.func100, Try.ntmps100
  go_wp2_with fail
  refine (qty_any _ qt).mono ?_
  rintro e w1 ⟨rfl, F1⟩
  go_wp2_with fail
  go_ret
  exact ⟨rfl, F1⟩
def v3I (pr qt : Int) : Int := if (mulN (pr.toNat * qt.toNat)).2 then 0 else 2
theorem values3_any (w : World) (g2 : Nat) (id ow sd pr qt fl sq : Int) (B2 : Blk w g2 32 #[.int .i64 id, .int .i64 ow, .int .i64 sd, .int .i64 pr, .int .i64 qt, .int .i64 fl, .int .i64 sq])
    (hp : 0 ≤ pr ∧ pr ≤ 1099511627776) (hq : 0 ≤ qt ∧ qt ≤ 4294967296) :
    Calls Try.prog 102 #[.pointer (some ⟨g2, 0, none⟩)] w fun e w' => e = .returned (.int .i64 (v3I pr qt)) ∧ Fr [] w w' := by
  unfold v3I
  obtain ⟨a, rfl⟩ := Int.eq_ofNat_of_zero_le hp.1
  obtain ⟨b, rfl⟩ := Int.eq_ofNat_of_zero_le hq.1
  rw [Int.toNat_natCast, Int.toNat_natCast]
  have HN := Lib.hid (fun w => notional_any w a b (by omega) (by omega))
  generalize mulN (a * b) = m at HN ⊢
  obtain ⟨n, c⟩ := m
  have c2 := B2.cell
  clear hp hq
  cases c
  all_goals
    go_enter Try.func102, Try.ntmps102
    go_wp2_with fail
    refine (HN.out _).mono ?_
    rintro e w1 ⟨rfl, F1⟩
    go_wp2_with fail
    refine (unless_any _ _ 2).mono ?_
    rintro e w1 ⟨rfl, rfl⟩
    go_wp2_with fail
    go_ret
    exact ⟨rfl, F1⟩
def v4I (on : Bool) (bid sd pr fl : Int) : Int := if mayB on bid sd pr fl then 0 else 14
theorem values4_any (w : World) (g1 g2 : Nat) (on : Bool) (bid id ow sd pr qt fl sq : Int) (B1 : Blk w g1 28 #[.bool on, .int .i64 bid]) (B2 : Blk w g2 32 #[.int .i64 id, .int .i64 ow, .int .i64 sd, .int .i64 pr, .int .i64 qt, .int .i64 fl, .int .i64 sq]) :
    Calls Try.prog 104 #[.pointer (some ⟨g1, 0, none⟩), .pointer (some ⟨g2, 0, none⟩)] w fun e w' => e = .returned (.int .i64 (v4I on bid sd pr fl)) ∧ Fr [] w w' := by
  have c1 := B1.cell
  have c2 := B2.cell
  unfold v4I
  generalize hb : mayB on bid sd pr fl = b
  have HB := Lib.hid hb
  clear hb
  cases b
  all_goals
    go_enter Try.func104, Try.ntmps104
    go_wp2_with fail
    refine (may_any _ on bid id ow sd pr qt fl sq).mono ?_
    rw [HB.out]
    rintro e w1 ⟨rfl, F1⟩
    go_wp2_with fail
    refine (unless_any _ _ 14).mono ?_
    rintro e w1 ⟨rfl, rfl⟩
    go_wp2_with fail
    go_ret
    exact ⟨rfl, F1⟩

/-- What is wrong first with an order's values. -/
def valuesI (g : Int) (on : Bool) (bid sd pr qt fl : Int) (m : Bool) : Int :=
  if v1I m pr g = 0 then if qtyI qt = 0 then if v3I pr qt = 0 then v4I on bid sd pr fl else v3I pr qt else qtyI qt else v1I m pr g

theorem v1_zero {m : Bool} {pr g : Int} (h : v1I m pr g = 0) : 0 ≤ pr ∧ pr ≤ 1099511627776 := by
  unfold v1I at h
  cases m with
  | true =>
    simp at h
    by_cases c : pr = 0
    · omega
    · simp [c] at h
  | false =>
    simp at h
    unfold priceI at h
    split at h
    · omega
    · split at h
      · omega
      · omega
theorem qty_zero {q : Int} (h : qtyI q = 0) : 1 ≤ q ∧ q ≤ 4294967296 := by
  unfold qtyI inB at h
  split at h
  · rename_i c; simp at c; exact c
  · omega

theorem calls_name {P : Program} {f : FuncId} {args : Array Value} {w : World} {R : Ending → World → Prop} (h : ∀ W, W = w → Calls P f args W R) : Calls P f args w R := h w rfl
theorem forall4 {Q : Nat → Prop} (h0 : Q 0) (h1 : Q 1) (h2 : Q 2) (h3 : Q 3) : ∀ i, i < 4 → Q i := by
  intro i hi
  rcases (show i = 0 ∨ i = 1 ∨ i = 2 ∨ i = 3 by omega) with rfl | rfl | rfl | rfl <;> assumption
theorem forall3 {Q : Nat → Prop} (h0 : Q 0) (h1 : Q 1) (h2 : Q 2) : ∀ i, i < 3 → Q i := by
  intro i hi
  rcases (show i = 0 ∨ i = 1 ∨ i = 2 by omega) with rfl | rfl | rfl <;> assumption
def pick4 {α : Type} (a b c d : α) : Nat → α | 0 => a | 1 => b | 2 => c | _ => d
def pick3 {α : Type} (a b c : α) : Nat → α | 0 => a | 1 => b | _ => c
set_option maxHeartbeats 1000000 in
theorem values_any (w : World) (cs : Array Value) (g : Int) (hs : IsSym cs g) (on : Bool) (bid id ow sd pr qt fl sq : Int) (m : Bool) (hp : In64 pr) (hg : In64 g) :
    Calls Try.prog 82 #[.agg cs, .agg #[.bool on, .int .i64 bid], .agg #[.int .i64 id, .int .i64 ow, .int .i64 sd, .int .i64 pr, .int .i64 qt, .int .i64 fl, .int .i64 sq], .bool m] w fun e w' => e = .returned (.int .i64 (valuesI g on bid sd pr qt fl m)) ∧ Fr [] w w' := by
  have hmf : ∀ (fn : Fn) (first cap : Array Value) (w : World), (Instr.makeFunc fn first cap).run Try.prog w = .ok (.func fn first cap) w := fun _ _ _ _ => rfl
  have HS := Lib.hid hs
  have HI := Lib.hid (And.intro hp hg)
  have hsz := hs.size
  clear hs hp hg
  go_enter Try.func82, Try.ntmps82
  go_wp2_with fail
  refine calls_name (fun W hW => ?_)
  have B4 := Blk.box4 hW
  have B3 := Blk.box3 hW
  have B2 := Blk.box2 hW
  have B1 := Blk.box1 hW
  have B0 := Blk.box0 hW
  have F0 : Fr [] w W := Fr.eqv hW (by with_reducible repeat (first | exact Fr.refl _ _ | assumption | apply Fr.drew | apply Fr.drewN | apply Fr.alloc | (apply Fr.step; assumption; (intro _ h; (first | exact h | (focus (simp_all; done))))) | (apply Fr.setIn; (first | exact List.mem_cons_self | exact List.mem_cons_of_mem _ List.mem_cons_self | exact List.mem_cons_of_mem _ (List.mem_cons_of_mem _ List.mem_cons_self) | exact List.mem_cons_of_mem _ (List.mem_cons_of_mem _ (List.mem_cons_of_mem _ List.mem_cons_self)))) | (apply Fr.setNew; (first | omega | (simp; omega)))))
  simp only [World.size_alloc] at B3 B2 B1 B0
  clear hW
  have hv : ∀ j, j < 4 → True := fun _ _ => trivial
  refine (first_any W (w.heap.size + 1 + 1 + 1 + 1) 4 _ (pick4 98 100 102 104)
    (pick4 #[.pointer (some ⟨w.heap.size, 0, none⟩), .pointer (some ⟨w.heap.size + 1 + 1, 0, none⟩), .pointer (some ⟨w.heap.size + 1 + 1 + 1, 0, none⟩)] #[.pointer (some ⟨w.heap.size + 1 + 1, 0, none⟩)] #[.pointer (some ⟨w.heap.size + 1 + 1, 0, none⟩)] #[.pointer (some ⟨w.heap.size + 1, 0, none⟩), .pointer (some ⟨w.heap.size + 1 + 1, 0, none⟩)])
    (pick4 (v1I m pr g) (qtyI qt) (v3I pr qt) (v4I on bid sd pr fl)) B0 (by omega) (forall4 rfl rfl rfl rfl)
    (forall4 (enters_of Try.func98 (by kernel_rfl) rfl) (enters_of Try.func100 (by kernel_rfl) rfl) (enters_of Try.func102 (by kernel_rfl) rfl) (enters_of Try.func104 (by kernel_rfl) rfl))
    (forall4 (fun _ w' F => values1_any w' _ _ _ cs g HS.out id ow sd pr qt fl sq m HI.out.1 HI.out.2 (Blk.via F (by simp) B4) (Blk.via F (by simp) B2) (Blk.via F (by simp) B1))
      (fun _ w' F => values2_any w' _ id ow sd pr qt fl sq (Blk.via F (by simp) B2))
      (fun hz w' F => values3_any w' _ id ow sd pr qt fl sq (Blk.via F (by simp) B2) (v1_zero (hz 0 (by omega))) ⟨by have := (qty_zero (hz 1 (by omega))).1; omega, (qty_zero (hz 1 (by omega))).2⟩)
      (fun _ w' F => values4_any w' _ _ on bid id ow sd pr qt fl sq (Blk.via F (by simp) B3) (Blk.via F (by simp) B2)))).mono ?_
  have hres : firstI (pick4 (v1I m pr g) (qtyI qt) (v3I pr qt) (v4I on bid sd pr fl)) 0 4 = valuesI g on bid sd pr qt fl m := by
    simp only [firstI, pick4, valuesI]
    by_cases h4 : v4I on bid sd pr fl = 0
    · simp [h4]
    · simp [h4]
  rw [hres]
  rintro e w1 ⟨rfl, F1⟩
  clear hres hv B0 B1 B2 B3 B4
  go_wp2_with fail
  go_ret
  exact ⟨rfl, F0.trans F1⟩
end Go.Proofs.Ytgddmkgmpibpgaa
