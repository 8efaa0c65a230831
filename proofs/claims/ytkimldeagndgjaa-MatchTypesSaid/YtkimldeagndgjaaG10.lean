/- Words and contracts: Qty MatchA MatchB. -/
import Derived.Outline
import Derived.Test.YtkimldeagndgjaaG2
import Derived.Test.YtkimldeagndgjaaG9
/- fix.Qty, walked. -/
namespace Go.Proofs.Ytkimldeagndgjaa
set_option linter.unusedVariables false
set_option linter.unusedSimpArgs false
open Go.RowKit

def inB (n lo hi : Int) : Bool := decide (lo ≤ n) && decide (n ≤ hi)
def qtyI (q : Int) : Int := if inB q 1 4294967296 then 0 else 9
theorem qty1_any (w : World) (g : Nat) (q lo hi : Int) (B : Blk w g 2 #[.int .i64 q]) (b : Bool) (hb : inB q lo hi = b) :
    Calls Try.prog 160 #[.int .i64 lo, .int .i64 hi, .pointer (some ⟨g, 0, none⟩)] w fun e w' => e = .returned (.bool b) ∧ Fr [] w w' := by
  subst hb
  have c1 := B.cell
  by_cases c : lo ≤ q
  · have h : inB q lo hi = decide (q ≤ hi) := by unfold inB; simp [c]
    rw [h]
    clear h
    go_enter Try.func160, Try.ntmps160
    go_wp2_with fail
    go_ret
    exact ⟨rfl, Fr.refl _ _⟩
  · have h : inB q lo hi = false := by unfold inB; simp [c]
    rw [h]
    have h2 : decide (lo ≤ q) = false := by simpa using c
    clear h c
    go_enter Try.func160, Try.ntmps160
    go_wp2_with fail
    go_ret
    exact ⟨rfl, Fr.refl _ _⟩
theorem qty_any (w : World) (q : Int) :
    Calls Try.prog 126 #[.int .i64 q] w fun e w' => e = .returned (.int .i64 (qtyI q)) ∧ Fr [] w w' := by
  have hmf : ∀ (fn : Fn) (first cap : Array Value) (w : World), (Instr.makeFunc fn first cap).run Try.prog w = .ok (.func fn first cap) w := fun _ _ _ _ => rfl
  unfold qtyI
  generalize hb : inB q 1 4294967296 = b
  have HB := Lib.hid hb
  clear hb
  cases b
  all_goals
    go_enter Try.func126, Try.ntmps126
    go_wp2_with fail
    refine (qty1_any _ _ q 1 4294967296 (Blk.new _ _ _) _ HB.out).mono ?_
    rintro e w1 ⟨rfl, F1⟩
    go_wp2_with fail
    go_ret
    exact ⟨rfl, by with_reducible repeat (first | exact Fr.refl _ _ | assumption | apply Fr.drew | apply Fr.drewN | apply Fr.alloc | (apply Fr.step; assumption; (intro _ h; (first | exact h | (focus (simp_all; done))))) | (apply Fr.setIn; (first | exact List.mem_cons_self | exact List.mem_cons_of_mem _ List.mem_cons_self | exact List.mem_cons_of_mem _ (List.mem_cons_of_mem _ List.mem_cons_self) | exact List.mem_cons_of_mem _ (List.mem_cons_of_mem _ (List.mem_cons_of_mem _ List.mem_cons_self)))) | (apply Fr.setNew; (first | omega | (simp; omega))))⟩
end Go.Proofs.Ytkimldeagndgjaa

/- An order that comes: words, and the small functions of match, walked. -/
namespace Go.Proofs.Ytkimldeagndgjaa
set_option linter.unusedVariables false
set_option linter.unusedSimpArgs false
open Go.RowKit

/-- An entry. -/
structure Entr where
  o : Ord
  ty : Int
  lo : Int
  hi : Int
  sf : Int
abbrev Entr.a (e : Entr) : Array Value := #[.int .i64 e.o.id, .int .i64 e.o.ow, .int .i64 e.o.sd, .int .i64 e.o.pr, .int .i64 e.o.qt, .int .i64 e.o.fl, .int .i64 e.o.sq, .int .i64 e.ty, .int .i64 e.lo, .int .i64 e.hi, .int .i64 e.sf]
theorem info_entry : (Try.prog.info? 102).map (·.size) = some 11 := by kernel_rfl
theorem wpList_loadE {ops : Array Oper} {rest : List Oper} {p : Oper} {a : Act} {w : World} {Q : Exit → Act → World → Prop} (hgd : p.guard = none) (x : Operand) (hp : p.op = .load 102 x)
    (g : Nat) (e : Entr) (hx : a.eval x = .pointer (some ⟨g, 0, none⟩)) (B : Blk w g 102 e.a) (h : wpList Try.prog ops Q rest (a.put p.dst (.agg e.a)) w) : wpList Try.prog ops Q (p :: rest) a w :=
  wpList_load_row hgd _ x hp g hx _ _ (0, 0) _ B Try.underlying102 rfl info_entry h

def beyondB (e : Entr) (p : Int) : Bool := if e.o.sd = 0 then decide (e.hi < p) else if e.o.sd = 1 then decide (p < e.lo) else false
theorem beyond_any (w : World) (e : Entr) (p : Int) : Calls Try.prog 156 #[.agg e.a, .int .i64 p] w fun r w' => r = .returned (.bool (beyondB e p)) ∧ Fr [] w w' := by
  unfold beyondB
  by_cases h0 : e.o.sd = 0
  · rw [if_pos h0]
    go_enter Try.func156, Try.ntmps156
    go_wp2_with fail
    go_ret
    exact ⟨rfl, by with_reducible repeat (first | exact Fr.refl _ _ | assumption | apply Fr.drew | apply Fr.drewN | apply Fr.alloc | (apply Fr.step; assumption; (intro _ h; (first | exact h | (focus (simp_all; done))))) | (apply Fr.setIn; (first | exact List.mem_cons_self | exact List.mem_cons_of_mem _ List.mem_cons_self | exact List.mem_cons_of_mem _ (List.mem_cons_of_mem _ List.mem_cons_self) | exact List.mem_cons_of_mem _ (List.mem_cons_of_mem _ (List.mem_cons_of_mem _ List.mem_cons_self)))) | (apply Fr.setNew; (first | omega | (simp; omega))))⟩
  · rw [if_neg h0]
    have h0' : (e.o.sd == 0) = false := by simpa using h0
    by_cases h1 : e.o.sd = 1
    · rw [if_pos h1]
      have h1' : (e.o.sd == 1) = true := by simpa using h1
      clear h0 h1
      go_enter Try.func156, Try.ntmps156
      go_wp2_with fail
      go_ret
      exact ⟨rfl, by with_reducible repeat (first | exact Fr.refl _ _ | assumption | apply Fr.drew | apply Fr.drewN | apply Fr.alloc | (apply Fr.step; assumption; (intro _ h; (first | exact h | (focus (simp_all; done))))) | (apply Fr.setIn; (first | exact List.mem_cons_self | exact List.mem_cons_of_mem _ List.mem_cons_self | exact List.mem_cons_of_mem _ (List.mem_cons_of_mem _ List.mem_cons_self) | exact List.mem_cons_of_mem _ (List.mem_cons_of_mem _ (List.mem_cons_of_mem _ List.mem_cons_self)))) | (apply Fr.setNew; (first | omega | (simp; omega))))⟩
    · rw [if_neg h1]
      have h1' : (e.o.sd == 1) = false := by simpa using h1
      clear h0 h1
      go_enter Try.func156, Try.ntmps156
      go_wp2_with fail
      go_ret
      exact ⟨rfl, by with_reducible repeat (first | exact Fr.refl _ _ | assumption | apply Fr.drew | apply Fr.drewN | apply Fr.alloc | (apply Fr.step; assumption; (intro _ h; (first | exact h | (focus (simp_all; done))))) | (apply Fr.setIn; (first | exact List.mem_cons_self | exact List.mem_cons_of_mem _ List.mem_cons_self | exact List.mem_cons_of_mem _ (List.mem_cons_of_mem _ List.mem_cons_self) | exact List.mem_cons_of_mem _ (List.mem_cons_of_mem _ (List.mem_cons_of_mem _ List.mem_cons_self)))) | (apply Fr.setNew; (first | omega | (simp; omega))))⟩

def repr4 (e : Entr) : Bool := bits .and .i64 e.o.fl 4 == 0
def edgeV (e : Entr) : Int := if repr4 e = true ∨ beyondB e e.o.pr = false then e.o.pr else if e.o.sd = 0 then e.hi else e.lo
set_option maxRecDepth 5000 in
theorem edge_any (w : World) (e : Entr) : Calls Try.prog 115 #[.agg e.a] w fun r w' => r = .returned (.int .i64 (edgeV e)) ∧ Fr [] w w' := by
  unfold edgeV repr4
  by_cases hr : (bits .and .i64 e.o.fl 4 == 0) = true
  · rw [if_pos (.inl hr)]
    go_enter Try.func115, Try.ntmps115
    go_wp2_with fail
    go_ret
    exact ⟨rfl, by with_reducible repeat (first | exact Fr.refl _ _ | assumption | apply Fr.drew | apply Fr.drewN | apply Fr.alloc | (apply Fr.step; assumption; (intro _ h; (first | exact h | (focus (simp_all; done))))) | (apply Fr.setIn; (first | exact List.mem_cons_self | exact List.mem_cons_of_mem _ List.mem_cons_self | exact List.mem_cons_of_mem _ (List.mem_cons_of_mem _ List.mem_cons_self) | exact List.mem_cons_of_mem _ (List.mem_cons_of_mem _ (List.mem_cons_of_mem _ List.mem_cons_self)))) | (apply Fr.setNew; (first | omega | (simp; omega))))⟩
  · have hr' : (bits .and .i64 e.o.fl 4 == 0) = false := by simpa using hr
    have HBy := Lib.hid (fun W => beyond_any W e e.o.pr)
    generalize beyondB e e.o.pr = bb at HBy ⊢
    clear hr
    cases bb
    · rw [if_pos (.inr rfl)]
      go_enter Try.func115, Try.ntmps115
      go_wp2_with fail
      refine calls_named (fun W0 hW => ?_)
      have B0 : Blk W0 w.heap.size 102 e.a := Blk.box0 hW
      have F0 : Fr [] w W0 := Fr.eqv hW (by with_reducible repeat (first | exact Fr.refl _ _ | assumption | apply Fr.drew | apply Fr.drewN | apply Fr.alloc | (apply Fr.step; assumption; (intro _ h; (first | exact h | (focus (simp_all; done))))) | (apply Fr.setIn; (first | exact List.mem_cons_self | exact List.mem_cons_of_mem _ List.mem_cons_self | exact List.mem_cons_of_mem _ (List.mem_cons_of_mem _ List.mem_cons_self) | exact List.mem_cons_of_mem _ (List.mem_cons_of_mem _ (List.mem_cons_of_mem _ List.mem_cons_self)))) | (apply Fr.setNew; (first | omega | (simp; omega)))))
      clear hW
      refine (HBy.out W0).mono ?_
      rintro r w1 ⟨rfl, F1⟩
      have c1 := (Blk.via F1 (by simp) B0).cell
      go_wp2_with fail
      go_ret
      exact ⟨rfl, F0.trans F1⟩
    · rw [if_neg (by simp [hr'])]
      by_cases h0 : e.o.sd = 0
      · rw [if_pos h0]
        have h0' : (e.o.sd == 0) = true := by simpa using h0
        clear h0
        go_enter Try.func115, Try.ntmps115
        go_wp2_with fail
        refine calls_named (fun W0 hW => ?_)
        have B0 : Blk W0 w.heap.size 102 e.a := Blk.box0 hW
        have F0 : Fr [] w W0 := Fr.eqv hW (by with_reducible repeat (first | exact Fr.refl _ _ | assumption | apply Fr.drew | apply Fr.drewN | apply Fr.alloc | (apply Fr.step; assumption; (intro _ h; (first | exact h | (focus (simp_all; done))))) | (apply Fr.setIn; (first | exact List.mem_cons_self | exact List.mem_cons_of_mem _ List.mem_cons_self | exact List.mem_cons_of_mem _ (List.mem_cons_of_mem _ List.mem_cons_self) | exact List.mem_cons_of_mem _ (List.mem_cons_of_mem _ (List.mem_cons_of_mem _ List.mem_cons_self)))) | (apply Fr.setNew; (first | omega | (simp; omega)))))
        clear hW
        refine (HBy.out W0).mono ?_
        rintro r w1 ⟨rfl, F1⟩
        have c1 := (Blk.via F1 (by simp) B0).cell
        go_wp2_with fail
        go_ret
        exact ⟨rfl, F0.trans F1⟩
      · rw [if_neg h0]
        have h0' : (e.o.sd == 0) = false := by simpa using h0
        clear h0
        go_enter Try.func115, Try.ntmps115
        go_wp2_with fail
        refine calls_named (fun W0 hW => ?_)
        have B0 : Blk W0 w.heap.size 102 e.a := Blk.box0 hW
        have F0 : Fr [] w W0 := Fr.eqv hW (by with_reducible repeat (first | exact Fr.refl _ _ | assumption | apply Fr.drew | apply Fr.drewN | apply Fr.alloc | (apply Fr.step; assumption; (intro _ h; (first | exact h | (focus (simp_all; done))))) | (apply Fr.setIn; (first | exact List.mem_cons_self | exact List.mem_cons_of_mem _ List.mem_cons_self | exact List.mem_cons_of_mem _ (List.mem_cons_of_mem _ List.mem_cons_self) | exact List.mem_cons_of_mem _ (List.mem_cons_of_mem _ (List.mem_cons_of_mem _ List.mem_cons_self)))) | (apply Fr.setNew; (first | omega | (simp; omega)))))
        clear hW
        refine (HBy.out W0).mono ?_
        rintro r w1 ⟨rfl, F1⟩
        have c1 := (Blk.via F1 (by simp) B0).cell
        go_wp2_with fail
        go_ret
        exact ⟨rfl, F0.trans F1⟩
def limV (e : Entr) : Int := if e.ty = 2 then 0 else e.o.pr
theorem limit_any (w : World) (e : Entr) : Calls Try.prog 154 #[.agg e.a] w fun r w' => r = .returned (.int .i64 (limV e)) ∧ Fr [] w w' := by
  unfold limV
  by_cases h : e.ty = 2
  · rw [if_pos h]
    go_enter Try.func154, Try.ntmps154
    go_wp2_with fail
    go_ret
    exact ⟨rfl, by with_reducible repeat (first | exact Fr.refl _ _ | assumption | apply Fr.drew | apply Fr.drewN | apply Fr.alloc | (apply Fr.step; assumption; (intro _ h; (first | exact h | (focus (simp_all; done))))) | (apply Fr.setIn; (first | exact List.mem_cons_self | exact List.mem_cons_of_mem _ List.mem_cons_self | exact List.mem_cons_of_mem _ (List.mem_cons_of_mem _ List.mem_cons_self) | exact List.mem_cons_of_mem _ (List.mem_cons_of_mem _ (List.mem_cons_of_mem _ List.mem_cons_self)))) | (apply Fr.setNew; (first | omega | (simp; omega))))⟩
  · rw [if_neg h]
    have h' : (e.ty == 2) = false := by simpa using h
    clear h
    go_enter Try.func154, Try.ntmps154
    go_wp2_with fail
    go_ret
    exact ⟨rfl, by with_reducible repeat (first | exact Fr.refl _ _ | assumption | apply Fr.drew | apply Fr.drewN | apply Fr.alloc | (apply Fr.step; assumption; (intro _ h; (first | exact h | (focus (simp_all; done))))) | (apply Fr.setIn; (first | exact List.mem_cons_self | exact List.mem_cons_of_mem _ List.mem_cons_self | exact List.mem_cons_of_mem _ (List.mem_cons_of_mem _ List.mem_cons_self) | exact List.mem_cons_of_mem _ (List.mem_cons_of_mem _ (List.mem_cons_of_mem _ List.mem_cons_self)))) | (apply Fr.setNew; (first | omega | (simp; omega))))⟩
def staysB (e : Entr) : Bool := e.ty == 1 || e.ty == 5
theorem stays_any (w : World) (e : Entr) : Calls Try.prog 155 #[.agg e.a] w fun r w' => r = .returned (.bool (staysB e)) ∧ Fr [] w w' := by
  unfold staysB
  cases h : (e.ty == 1)
  · go_enter Try.func155, Try.ntmps155
    go_wp2_with fail
    go_ret
    exact ⟨rfl, by with_reducible repeat (first | exact Fr.refl _ _ | assumption | apply Fr.drew | apply Fr.drewN | apply Fr.alloc | (apply Fr.step; assumption; (intro _ h; (first | exact h | (focus (simp_all; done))))) | (apply Fr.setIn; (first | exact List.mem_cons_self | exact List.mem_cons_of_mem _ List.mem_cons_self | exact List.mem_cons_of_mem _ (List.mem_cons_of_mem _ List.mem_cons_self) | exact List.mem_cons_of_mem _ (List.mem_cons_of_mem _ (List.mem_cons_of_mem _ List.mem_cons_self)))) | (apply Fr.setNew; (first | omega | (simp; omega))))⟩
  · go_enter Try.func155, Try.ntmps155
    go_wp2_with fail
    go_ret
    exact ⟨rfl, by with_reducible repeat (first | exact Fr.refl _ _ | assumption | apply Fr.drew | apply Fr.drewN | apply Fr.alloc | (apply Fr.step; assumption; (intro _ h; (first | exact h | (focus (simp_all; done))))) | (apply Fr.setIn; (first | exact List.mem_cons_self | exact List.mem_cons_of_mem _ List.mem_cons_self | exact List.mem_cons_of_mem _ (List.mem_cons_of_mem _ List.mem_cons_self) | exact List.mem_cons_of_mem _ (List.mem_cons_of_mem _ (List.mem_cons_of_mem _ List.mem_cons_self)))) | (apply Fr.setNew; (first | omega | (simp; omega))))⟩
def rangedB (e : Entr) : Bool := if e.ty = 2 then e.o.pr != 0 else decide (e.o.pr < 1) || decide (1099511627776 < e.o.pr)
theorem priceI1 (p : Int) : priceI p 1 = if p < 1 ∨ 1099511627776 < p then 9 else 0 := by
  unfold priceI
  rw [if_neg (by omega)]
  split
  · rfl
  · rename_i h
    have : downI p 1 = p := by unfold downI; split <;> first | omega | simp
    rw [if_pos this]
theorem ranged_any (w : World) (e : Entr) (hp : In64 e.o.pr) : Calls Try.prog 149 #[.agg e.a] w fun r w' => r = .returned (.bool (rangedB e)) ∧ Fr [] w w' := by
  unfold rangedB
  by_cases h : e.ty = 2
  · rw [if_pos h]
    go_enter Try.func149, Try.ntmps149
    go_wp2_with fail
    go_ret
    exact ⟨rfl, by with_reducible repeat (first | exact Fr.refl _ _ | assumption | apply Fr.drew | apply Fr.drewN | apply Fr.alloc | (apply Fr.step; assumption; (intro _ h; (first | exact h | (focus (simp_all; done))))) | (apply Fr.setIn; (first | exact List.mem_cons_self | exact List.mem_cons_of_mem _ List.mem_cons_self | exact List.mem_cons_of_mem _ (List.mem_cons_of_mem _ List.mem_cons_self) | exact List.mem_cons_of_mem _ (List.mem_cons_of_mem _ (List.mem_cons_of_mem _ List.mem_cons_self)))) | (apply Fr.setNew; (first | omega | (simp; omega))))⟩
  · rw [if_neg h]
    have h' : (e.ty == 2) = false := by simpa using h
    have HP := Lib.hid (fun W => price_any W e.o.pr 1 hp (by unfold In64; omega))
    rw [priceI1] at HP
    clear h hp
    by_cases c : e.o.pr < 1 ∨ 1099511627776 < e.o.pr
    · have e1 : (decide (e.o.pr < 1) || decide (1099511627776 < e.o.pr)) = true := by simpa using c
      rw [if_pos c] at HP
      rw [e1]
      clear c e1
      go_enter Try.func149, Try.ntmps149
      go_wp2_with fail
      refine (HP.out _).mono ?_
      rintro r w1 ⟨rfl, rfl⟩
      go_wp2_with fail
      go_ret
      exact ⟨rfl, by with_reducible repeat (first | exact Fr.refl _ _ | assumption | apply Fr.drew | apply Fr.drewN | apply Fr.alloc | (apply Fr.step; assumption; (intro _ h; (first | exact h | (focus (simp_all; done))))) | (apply Fr.setIn; (first | exact List.mem_cons_self | exact List.mem_cons_of_mem _ List.mem_cons_self | exact List.mem_cons_of_mem _ (List.mem_cons_of_mem _ List.mem_cons_self) | exact List.mem_cons_of_mem _ (List.mem_cons_of_mem _ (List.mem_cons_of_mem _ List.mem_cons_self)))) | (apply Fr.setNew; (first | omega | (simp; omega))))⟩
    · have e1 : (decide (e.o.pr < 1) || decide (1099511627776 < e.o.pr)) = false := by
        rw [Bool.or_eq_false_iff, decide_eq_false_iff_not, decide_eq_false_iff_not]; omega
      rw [if_neg c] at HP
      rw [e1]
      clear c e1
      go_enter Try.func149, Try.ntmps149
      go_wp2_with fail
      refine (HP.out _).mono ?_
      rintro r w1 ⟨rfl, rfl⟩
      go_wp2_with fail
      go_ret
      exact ⟨rfl, by with_reducible repeat (first | exact Fr.refl _ _ | assumption | apply Fr.drew | apply Fr.drewN | apply Fr.alloc | (apply Fr.step; assumption; (intro _ h; (first | exact h | (focus (simp_all; done))))) | (apply Fr.setIn; (first | exact List.mem_cons_self | exact List.mem_cons_of_mem _ List.mem_cons_self | exact List.mem_cons_of_mem _ (List.mem_cons_of_mem _ List.mem_cons_self) | exact List.mem_cons_of_mem _ (List.mem_cons_of_mem _ (List.mem_cons_of_mem _ List.mem_cons_self)))) | (apply Fr.setNew; (first | omega | (simp; omega))))⟩
def whyV (e : Entr) (left stop : Int) : Int := if left = 0 then 0 else if stop = 3 then 4 else if stop = 2 ∨ staysB e = true then 3 else 2
theorem why_any (w : World) (e : Entr) (A : Option Addr) (n c : Nat) (left stop : Int) : Calls Try.prog 114 #[.agg e.a, .agg #[.slice A n c, .int .i64 left, .int .i64 stop]] w fun r w' => r = .returned (.int .i64 (whyV e left stop)) ∧ Fr [] w w' := by
  unfold whyV
  by_cases h0 : left = 0
  · rw [if_pos h0]
    subst h0
    go_enter Try.func114, Try.ntmps114
    go_wp2_with fail
    go_ret
    exact ⟨rfl, by with_reducible repeat (first | exact Fr.refl _ _ | assumption | apply Fr.drew | apply Fr.drewN | apply Fr.alloc | (apply Fr.step; assumption; (intro _ h; (first | exact h | (focus (simp_all; done))))) | (apply Fr.setIn; (first | exact List.mem_cons_self | exact List.mem_cons_of_mem _ List.mem_cons_self | exact List.mem_cons_of_mem _ (List.mem_cons_of_mem _ List.mem_cons_self) | exact List.mem_cons_of_mem _ (List.mem_cons_of_mem _ (List.mem_cons_of_mem _ List.mem_cons_self)))) | (apply Fr.setNew; (first | omega | (simp; omega))))⟩
  · rw [if_neg h0]
    have h0' : (left == 0) = false := by simpa using h0
    clear h0
    by_cases h1 : stop = 3
    · rw [if_pos h1]
      subst h1
      go_enter Try.func114, Try.ntmps114
      go_wp2_with fail
      go_ret
      exact ⟨rfl, by with_reducible repeat (first | exact Fr.refl _ _ | assumption | apply Fr.drew | apply Fr.drewN | apply Fr.alloc | (apply Fr.step; assumption; (intro _ h; (first | exact h | (focus (simp_all; done))))) | (apply Fr.setIn; (first | exact List.mem_cons_self | exact List.mem_cons_of_mem _ List.mem_cons_self | exact List.mem_cons_of_mem _ (List.mem_cons_of_mem _ List.mem_cons_self) | exact List.mem_cons_of_mem _ (List.mem_cons_of_mem _ (List.mem_cons_of_mem _ List.mem_cons_self)))) | (apply Fr.setNew; (first | omega | (simp; omega))))⟩
    · rw [if_neg h1]
      have h1' : (stop == 3) = false := by simpa using h1
      clear h1
      by_cases h2 : stop = 2
      · rw [if_pos (.inl h2)]
        subst h2
        go_enter Try.func114, Try.ntmps114
        go_wp2_with fail
        go_ret
        exact ⟨rfl, by with_reducible repeat (first | exact Fr.refl _ _ | assumption | apply Fr.drew | apply Fr.drewN | apply Fr.alloc | (apply Fr.step; assumption; (intro _ h; (first | exact h | (focus (simp_all; done))))) | (apply Fr.setIn; (first | exact List.mem_cons_self | exact List.mem_cons_of_mem _ List.mem_cons_self | exact List.mem_cons_of_mem _ (List.mem_cons_of_mem _ List.mem_cons_self) | exact List.mem_cons_of_mem _ (List.mem_cons_of_mem _ (List.mem_cons_of_mem _ List.mem_cons_self)))) | (apply Fr.setNew; (first | omega | (simp; omega))))⟩
      · have h2' : (stop == 2) = false := by simpa using h2
        have HSt := Lib.hid (fun W => stays_any W e)
        generalize hb : staysB e = bb at HSt
        simp only [h2, hb, false_or]
        clear h2 hb
        cases bb
        · rw [if_neg (by decide)]
          go_enter Try.func114, Try.ntmps114
          go_wp2_with fail
          refine (HSt.out _).mono ?_
          rintro r w1 ⟨rfl, F1⟩
          go_wp2_with fail
          go_ret
          exact ⟨rfl, Fr.trans (by with_reducible repeat (first | exact Fr.refl _ _ | assumption | apply Fr.drew | apply Fr.drewN | apply Fr.alloc | (apply Fr.step; assumption; (intro _ h; (first | exact h | (focus (simp_all; done))))) | (apply Fr.setIn; (first | exact List.mem_cons_self | exact List.mem_cons_of_mem _ List.mem_cons_self | exact List.mem_cons_of_mem _ (List.mem_cons_of_mem _ List.mem_cons_self) | exact List.mem_cons_of_mem _ (List.mem_cons_of_mem _ (List.mem_cons_of_mem _ List.mem_cons_self)))) | (apply Fr.setNew; (first | omega | (simp; omega))))) F1⟩
        · rw [if_pos rfl]
          go_enter Try.func114, Try.ntmps114
          go_wp2_with fail
          refine (HSt.out _).mono ?_
          rintro r w1 ⟨rfl, F1⟩
          go_wp2_with fail
          go_ret
          exact ⟨rfl, Fr.trans (by with_reducible repeat (first | exact Fr.refl _ _ | assumption | apply Fr.drew | apply Fr.drewN | apply Fr.alloc | (apply Fr.step; assumption; (intro _ h; (first | exact h | (focus (simp_all; done))))) | (apply Fr.setIn; (first | exact List.mem_cons_self | exact List.mem_cons_of_mem _ List.mem_cons_self | exact List.mem_cons_of_mem _ (List.mem_cons_of_mem _ List.mem_cons_self) | exact List.mem_cons_of_mem _ (List.mem_cons_of_mem _ (List.mem_cons_of_mem _ List.mem_cons_self)))) | (apply Fr.setNew; (first | omega | (simp; omega))))) F1⟩

/-- The taker that an entry is. -/
def takOf (e : Entr) : Tak := ⟨e.o.sd, e.o.ow, limV e, e.o.qt, e.lo, e.hi, e.sf⟩
set_option maxHeartbeats 1000000 in
set_option maxRecDepth 5000 in
theorem plan_any (w : World) (b N K : Nat) (D : List Nat) (L : List Ord) (h : BookI w b D N K L) (e : Entr) (hs : e.o.sd = 0 ∨ e.o.sd = 1) (hq : 1 ≤ e.o.qt ∧ e.o.qt ≤ 9223372036854775807) (Y : List Ord) (hY : OfL (1 - e.o.sd) L Y) :
    Calls Try.prog 112 #[.agg e.a, .pointer (some ⟨b, 0, none⟩)] w fun r w' => ∃ v, r = .returned (.agg #[v, .int .i64 (mkL (takOf e) Y [] e.o.qt).2.1, .int .i64 (mkL (takOf e) Y [] e.o.qt).2.2]) ∧ Fr [] w w' ∧ RowF w' v (mkL (takOf e) Y [] e.o.qt).1 ∧ ∀ g, v.ownBlock = some g → w.heap.size ≤ g := by
  obtain ⟨P, hP⟩ : ∃ P, P = mkL (takOf e) Y [] e.o.qt := ⟨_, rfl⟩
  rw [← hP]
  have hM := fun W (hf : Fr [] w W) => make_any W b N K D L (h.fr hf (by simp)) (takOf e) hs hq Y hY
  rw [show (takOf e).qt = e.o.qt from rfl, ← hP] at hM
  obtain ⟨fs, left, stop⟩ := P
  simp only at hM ⊢
  have HM := Lib.hid hM
  clear hM hP
  have HLi := Lib.hid (fun W => limit_any W e)
  clear h hs hq hY
  go_enter Try.func112, Try.ntmps112
  go_wp2_with fail
  refine wp_name (fun W0 hW => ?_)
  have B0 : Blk W0 w.heap.size 102 e.a := Blk.box1 hW
  have C0 := Blk.box0 hW
  have F0 : Fr [] w W0 := Fr.eqv hW (by with_reducible repeat (first | exact Fr.refl _ _ | assumption | apply Fr.drew | apply Fr.drewN | apply Fr.alloc | (apply Fr.step; assumption; (intro _ h; (first | exact h | (focus (simp_all; done))))) | (apply Fr.setIn; (first | exact List.mem_cons_self | exact List.mem_cons_of_mem _ List.mem_cons_self | exact List.mem_cons_of_mem _ (List.mem_cons_of_mem _ List.mem_cons_self) | exact List.mem_cons_of_mem _ (List.mem_cons_of_mem _ (List.mem_cons_of_mem _ List.mem_cons_self)))) | (apply Fr.setNew; (first | omega | (simp; omega)))))
  simp only [World.size_alloc] at C0
  clear hW
  refine u_region (S := fun w' => ∀ i, w'.cell? ⟨w.heap.size, i, none⟩ = (e.a)[i]?) 18 (by kernel_rfl) (by kernel_rfl) (by kernel_rfl) (by kernel_rfl) (by kernel_rfl) (fun i => B0.drew.cell i) ?_
  (refine u_take 0 (v := ?_) rfl rfl (by kernel_rfl) (by kernel_rfl) (fun _ _ _ h => h) (Or.inl ⟨by rfl, ?_⟩) ?_; rotate_left; (focus (intro wz hSw; (try dsimp only at hSw); go_simp; (try with_reducible rfl))); (try simp only [Act.put, List.getElem_toArray, List.getElem_cons_succ, List.getElem_cons_zero, List.setIfInBounds_toArray, List.set_cons_zero, List.set_cons_succ]))
  (refine u_take 1 (v := ?_) rfl rfl (by kernel_rfl) (by kernel_rfl) (fun _ _ _ h => h) (Or.inl ⟨by rfl, ?_⟩) ?_; rotate_left; (focus (intro wz hSw; (try dsimp only at hSw); go_simp; (try with_reducible rfl))); (try simp only [Act.put, List.getElem_toArray, List.getElem_cons_succ, List.getElem_cons_zero, List.setIfInBounds_toArray, List.set_cons_zero, List.set_cons_succ]))
  (refine u_take 2 (v := ?_) rfl rfl (by kernel_rfl) (by kernel_rfl) (fun _ _ _ h => h) (Or.inl ⟨by rfl, ?_⟩) ?_; rotate_left; (focus (intro wz hSw; (try dsimp only at hSw); go_simp; (try with_reducible rfl))); (try simp only [Act.put, List.getElem_toArray, List.getElem_cons_succ, List.getElem_cons_zero, List.setIfInBounds_toArray, List.set_cons_zero, List.set_cons_succ]))
  (refine u_take 3 (v := ?_) rfl rfl (by kernel_rfl) (by kernel_rfl) (fun _ _ _ h => h) (Or.inl ⟨by rfl, ?_⟩) ?_; rotate_left; (focus (intro wz hSw; (try dsimp only at hSw); go_simp; (try with_reducible rfl))); (try simp only [Act.put, List.getElem_toArray, List.getElem_cons_succ, List.getElem_cons_zero, List.setIfInBounds_toArray, List.set_cons_zero, List.set_cons_succ]))
  (refine u_take 4 (v := ?_) rfl rfl (by kernel_rfl) (by kernel_rfl) (fun _ _ _ h => h) (Or.inl ⟨by rfl, ?_⟩) ?_; rotate_left; (focus (intro wz hSw; (try dsimp only at hSw); go_simp; (try with_reducible rfl))); (try simp only [Act.put, List.getElem_toArray, List.getElem_cons_succ, List.getElem_cons_zero, List.setIfInBounds_toArray, List.set_cons_zero, List.set_cons_succ]))
  (refine u_take 5 (v := ?_) rfl rfl (by kernel_rfl) (by kernel_rfl) (fun _ _ _ h => h) (Or.inl ⟨by rfl, ?_⟩) ?_; rotate_left; (focus (intro wz hSw; (try dsimp only at hSw); go_simp; (try with_reducible rfl))); (try simp only [Act.put, List.getElem_toArray, List.getElem_cons_succ, List.getElem_cons_zero, List.setIfInBounds_toArray, List.set_cons_zero, List.set_cons_succ]))
  (refine u_take 6 (v := ?_) rfl rfl (by kernel_rfl) (by kernel_rfl) (fun _ _ _ h => h) (Or.inl ⟨by rfl, ?_⟩) ?_; rotate_left; (focus (intro wz hSw; (try dsimp only at hSw); go_simp; (try with_reducible rfl))); (try simp only [Act.put, List.getElem_toArray, List.getElem_cons_succ, List.getElem_cons_zero, List.setIfInBounds_toArray, List.set_cons_zero, List.set_cons_succ]))
  (refine u_take 7 (v := ?_) rfl rfl (by kernel_rfl) (by kernel_rfl) (fun _ _ _ h => h) (Or.inl ⟨by rfl, ?_⟩) ?_; rotate_left; (focus (intro wz hSw; (try dsimp only at hSw); go_simp; (try with_reducible rfl))); (try simp only [Act.put, List.getElem_toArray, List.getElem_cons_succ, List.getElem_cons_zero, List.setIfInBounds_toArray, List.set_cons_zero, List.set_cons_succ]))
  (refine u_take 9 (v := ?_) rfl rfl (by kernel_rfl) (by kernel_rfl) (fun _ _ _ h => h) (Or.inl ⟨by rfl, ?_⟩) ?_; rotate_left; (focus (intro wz hSw; (try dsimp only at hSw); go_simp; (try with_reducible rfl))); (try simp only [Act.put, List.getElem_toArray, List.getElem_cons_succ, List.getElem_cons_zero, List.setIfInBounds_toArray, List.set_cons_zero, List.set_cons_succ]))
  (refine u_take 10 (v := ?_) rfl rfl (by kernel_rfl) (by kernel_rfl) (fun _ _ _ h => h) (Or.inl ⟨by rfl, ?_⟩) ?_; rotate_left; (focus (intro wz hSw; (try dsimp only at hSw); go_simp; (try with_reducible rfl))); (try simp only [Act.put, List.getElem_toArray, List.getElem_cons_succ, List.getElem_cons_zero, List.setIfInBounds_toArray, List.set_cons_zero, List.set_cons_succ]))
  (refine u_take 11 (v := ?_) rfl rfl (by kernel_rfl) (by kernel_rfl) (fun _ _ _ h => h) (Or.inl ⟨by rfl, ?_⟩) ?_; rotate_left; (focus (intro wz hSw; (try dsimp only at hSw); go_simp; (try with_reducible rfl))); (try simp only [Act.put, List.getElem_toArray, List.getElem_cons_succ, List.getElem_cons_zero, List.setIfInBounds_toArray, List.set_cons_zero, List.set_cons_succ]))
  (refine u_take 12 (v := ?_) rfl rfl (by kernel_rfl) (by kernel_rfl) (fun _ _ _ h => h) (Or.inl ⟨by rfl, ?_⟩) ?_; rotate_left; (focus (intro wz hSw; (try dsimp only at hSw); go_simp; (try with_reducible rfl))); (try simp only [Act.put, List.getElem_toArray, List.getElem_cons_succ, List.getElem_cons_zero, List.setIfInBounds_toArray, List.set_cons_zero, List.set_cons_succ]))
  (refine u_take 13 (v := ?_) rfl rfl (by kernel_rfl) (by kernel_rfl) (fun _ _ _ h => h) (Or.inl ⟨by rfl, ?_⟩) ?_; rotate_left; (focus (intro wz hSw; (try dsimp only at hSw); go_simp; (try with_reducible rfl))); (try simp only [Act.put, List.getElem_toArray, List.getElem_cons_succ, List.getElem_cons_zero, List.setIfInBounds_toArray, List.set_cons_zero, List.set_cons_succ]))
  (refine u_take 14 (v := ?_) rfl rfl (by kernel_rfl) (by kernel_rfl) (fun _ _ _ h => h) (Or.inl ⟨by rfl, ?_⟩) ?_; rotate_left; (focus (intro wz hSw; (try dsimp only at hSw); go_simp; (try with_reducible rfl))); (try simp only [Act.put, List.getElem_toArray, List.getElem_cons_succ, List.getElem_cons_zero, List.setIfInBounds_toArray, List.set_cons_zero, List.set_cons_succ]))
  (refine u_take 15 (v := ?_) rfl rfl (by kernel_rfl) (by kernel_rfl) (fun _ _ _ h => h) (Or.inl ⟨by rfl, ?_⟩) ?_; rotate_left; (focus (intro wz hSw; (try dsimp only at hSw); go_simp; (try with_reducible rfl))); (try simp only [Act.put, List.getElem_toArray, List.getElem_cons_succ, List.getElem_cons_zero, List.setIfInBounds_toArray, List.set_cons_zero, List.set_cons_succ]))
  refine u_one 8 (by kernel_rfl) rfl rfl (fun Kq hKq => ?_)
  go_simp
  refine (HLi.out _).mono ?_
  rintro r w1 ⟨rfl, F1⟩
  have F01 : Fr [] W0 w1 := (Fr.drew (Fr.refl _ _)).trans F1
  have B1 := Blk.via F01 (by simp) B0
  have C1 := Blk.via F01 (by simp) C0
  refine hKq _ _ (fun i => B1.cell i) ?_
  clear hKq Kq
  (try simp only [Act.put, List.getElem_toArray, List.getElem_cons_succ, List.getElem_cons_zero, List.setIfInBounds_toArray, List.set_cons_zero, List.set_cons_succ])
  (refine u_take 16 (v := ?_) rfl rfl (by kernel_rfl) (by kernel_rfl) (fun _ _ _ h => h) (Or.inl ⟨by rfl, ?_⟩) ?_; rotate_left; (focus (intro wz hSw; (try dsimp only at hSw); go_simp; (try with_reducible rfl))); (try simp only [Act.put, List.getElem_toArray, List.getElem_cons_succ, List.getElem_cons_zero, List.setIfInBounds_toArray, List.set_cons_zero, List.set_cons_succ]))
  refine u_one 17 (by kernel_rfl) rfl rfl (fun Kq hKq => ?_)
  go_simp
  refine (HM.out w1 (F0.trans F01)).mono ?_
  rintro r w2 ⟨v, rfl, F2, R2, hv⟩
  have B2 := Blk.via F2 (by simp) B1
  have C2 := Blk.via F2 (by simp) C1
  obtain ⟨A, c, rfl, _⟩ := R2.form
  refine hKq _ _ (fun i => B2.cell i) ?_
  clear hKq Kq
  (try simp only [Act.put, List.getElem_toArray, List.getElem_cons_succ, List.getElem_cons_zero, List.setIfInBounds_toArray, List.set_cons_zero, List.set_cons_succ])
  refine u_last (by kernel_rfl) rfl (by kernel_rfl) ?_
  have F02 : Fr [] w w2 := (F0.trans F01).trans F2
  have s1 := (F0.trans F01).size
  have HR2 := Lib.hid R2
  have HV := Lib.hid hv
  clear R2 hv B0 C0 B1 C1 B2 F1
  go_wp2_with (refine wpList_storeP rfl (.tmp 4) (.tmp 22) rfl (w.heap.size + 1) _ A fs.length c left stop rfl rfl C2 rfl ?_
               intro w3 B3 F3)
  have c3 := B3.cell
  refine bodyPost_ret (v := .agg #[.slice A fs.length c, .int .i64 left, .int .i64 stop]) (by simp [results, Try.results112, go_sem, c3]) rfl ⟨_, rfl, fr_fresh2 (by omega) F02 F3, HR2.out.fr F3 (fun g hg hm => ?_), fun g hg => ?_⟩
  · obtain ⟨cs, B⟩ := HR2.out.blk hg
    exact B.ne C2 (by decide) (List.mem_singleton.1 hm)
  · have := HV.out g hg; omega
end Go.Proofs.Ytkimldeagndgjaa

/- The best price of the other side that is left when a plan is applied (match.meets), walked. -/
namespace Go.Proofs.Ytkimldeagndgjaa
set_option linter.unusedVariables false
set_option linter.unusedSimpArgs false
open Go.RowKit Go.Shelf
attribute [local go_sem] Oper.semAt_some

/-- The price of the first order that the fills do not take whole. -/
def meetL : List Ord → List Fil → Option Int
  | [], _ => none
  | o :: _, [] => some o.pr
  | o :: r, f :: fs => if f.id = o.id ∧ f.qt = o.qt then meetL r fs else some o.pr
theorem meetL_some {o : Ord} {r : List Ord} {fs : List Fil} (h : ∀ f ∈ fs.head?, ¬ (f.id = o.id ∧ f.qt = o.qt)) : meetL (o :: r) fs = some o.pr := by
  cases fs with
  | nil => rfl
  | cons f fs => rw [meetL, if_neg (h f (by simp))]

set_option maxHeartbeats 4000000 in
set_option maxRecDepth 5000 in
theorem meets_any (w : World) (b N K : Nat) (D : List Nat) (L : List Ord) (h : BookI w b D N K L) (s : Int) (hs : s = 0 ∨ s = 1) (Y : List Ord) (hY : OfL (1 - s) L Y) (v : Value) (left stop : Int) (fs : List Fil) (hR : RowF w v fs) (hl : fs.length ≤ 10000) :
    Calls Try.prog 157 #[.pointer (some ⟨b, 0, none⟩), .int .i64 s, .agg #[v, .int .i64 left, .int .i64 stop]] w fun e w' => e = .returned (.tuple #[.int .i64 ((meetL Y fs).getD 0), .bool (meetL Y fs).isSome]) ∧ Fr [] w w' := by
  have hs1 : (1 - s = 0 ∨ 1 - s = 1) ∧ IntKind.i64.wrap (1 - s) = 1 - s := ⟨by omega, IntWalk.i64_in _ (by omega)⟩
  obtain ⟨A, c, rfl, hc⟩ := hR.form
  have HR := Lib.hid hR
  have HB := Lib.hid h
  have HY := Lib.hid hY
  have HS := Lib.hid hs1.1
  have hw := hs1.2
  have hYl := OfL.len' h.goodL hY
  have HYl := Lib.hid hYl
  have HRl := Lib.hid hR.lt
  have hrange : -9223372036854775808 ≤ 1 - s ∧ 1 - s ≤ 9223372036854775807 := by omega
  clear h hY hs hYl hs1 hR
  refine callsIn_wide.1 (callsIn_of_wp_marks (n := 0) Try.func157 rfl trivial ?_ rfl)
  simp only [Try.ntmps157, List.size_toArray, List.length_cons, List.length_nil, Nat.reduceAdd, Nat.reduceSub, Array.replicate_succ, Array.replicate_zero, List.push_toArray, List.append_toArray, List.nil_append, List.cons_append]
  refine wpIn_wide.2 ?_
  go_wp2_with fail
  refine calls_named (fun W1 hW => ?_)
  have B5 := Blk.box3 hW
  have B6 := Blk.box2 hW
  have B7 := Blk.box1 hW
  have B8 := Blk.box0 hW
  have F1 : Fr [] w W1 := Fr.eqv hW (by with_reducible repeat (first | exact Fr.refl _ _ | assumption | apply Fr.drew | apply Fr.drewN | apply Fr.alloc | (apply Fr.step; assumption; (intro _ h; (first | exact h | (focus (simp_all; done))))) | (apply Fr.setIn; (first | exact List.mem_cons_self | exact List.mem_cons_of_mem _ List.mem_cons_self | exact List.mem_cons_of_mem _ (List.mem_cons_of_mem _ List.mem_cons_self) | exact List.mem_cons_of_mem _ (List.mem_cons_of_mem _ (List.mem_cons_of_mem _ List.mem_cons_self)))) | (apply Fr.setNew; (first | omega | (simp; omega)))))
  have z1 : W1.heap.size = w.heap.size + 4 := by rw [hW]; simp
  simp only [World.size_alloc] at B6 B7 B8
  clear hW
  refine (bEach_mk _ (.pointer (some ⟨b, 0, none⟩)) (1 - s) ⟨_, rfl⟩).mono ?_
  rintro e w3 ⟨rfl, hW⟩
  have E1 := Blk.box1 hW.symm
  have E2 := Blk.box0 hW.symm
  have D5 := Blk.eqv hW.symm ((B5.alloc _).alloc _)
  have D6 := Blk.eqv hW.symm ((B6.alloc _).alloc _)
  have D7 := Blk.eqv hW.symm ((B7.alloc _).alloc _)
  have D8 := Blk.eqv hW.symm ((B8.alloc _).alloc _)
  have F3 : Fr [] w w3 := F1.trans (Fr.eqv hW.symm (by with_reducible repeat (first | exact Fr.refl _ _ | assumption | apply Fr.drew | apply Fr.drewN | apply Fr.alloc | (apply Fr.step; assumption; (intro _ h; (first | exact h | (focus (simp_all; done))))) | (apply Fr.setIn; (first | exact List.mem_cons_self | exact List.mem_cons_of_mem _ List.mem_cons_self | exact List.mem_cons_of_mem _ (List.mem_cons_of_mem _ List.mem_cons_self) | exact List.mem_cons_of_mem _ (List.mem_cons_of_mem _ (List.mem_cons_of_mem _ List.mem_cons_self)))) | (apply Fr.setNew; (first | omega | (simp; omega))))))
  have z3 : w3.heap.size = w.heap.size + 6 := by rw [← hW]; simp [z1]
  simp only [World.size_alloc] at E2
  rw [z1] at E1 E2
  clear hW B5 B6 B7 B8 F1
  have hBk := HB.out.fr F3 (by simp)
  have hDl : ∀ x ∈ D, x < w.heap.size := HB.out.lts'
  go_wp2_with fail
  refine wp_name_act (fun Ac hA => ?_)
  have hA1 : Ac.eval (.tmp 13) = .func (.func 99) #[] #[.pointer (some ⟨w.heap.size + 4, 0, none⟩), .pointer (some ⟨w.heap.size + 4 + 1, 0, none⟩)] := by rw [hA]; rfl
  have hTT : ∀ x ∈ (w.heap.size + 4) :: (w.heap.size + 4 + 1) :: D, x < w3.heap.size ∧ x ≠ w.heap.size + 1 ∧ x ≠ w.heap.size + 1 + 1 ∧ x ≠ w.heap.size + 1 + 1 + 1 := by
    intro x hx
    rcases List.mem_cons.1 hx with rfl | hx
    · omega
    rcases List.mem_cons.1 hx with rfl | hx
    · omega
    have := hDl x hx; omega
  refine (wpIn_wide (n := 0)).1 (range_outerM hA1 (enters_of Try.func99 (by kernel_rfl) rfl)
    (bEach_own (w.heap.size + 4) (w.heap.size + 4 + 1) b N K D L (1 - s) HS.out Y HY.out w3 E1 E2 hBk) (Below.refl _ _) (fun _ => rfl) (fun x hx => (hTT x hx).1)
    (fun M pre Wc => (M = [] ∧ pre.length ≤ fs.length ∧ ∀ rest, meetL (pre ++ rest) fs = meetL rest (fs.drop pre.length)) ∧ Fr [w.heap.size + 1 + 1 + 1] w3 Wc ∧ Blk Wc (w.heap.size + 1 + 1 + 1) 3 #[.int .i64 (pre.length : Nat)])
    (fun c M pre Wc => ∃ p : Int, (c = .ret ∧ ∀ rest, meetL (pre ++ rest) fs = some p) ∧ Fr [w.heap.size + 1, w.heap.size + 1 + 1, w.heap.size + 1 + 1 + 1] w3 Wc ∧ Blk Wc (w.heap.size + 1) 2 #[.int .i64 p] ∧ Blk Wc (w.heap.size + 1 + 1) 4 #[.bool true])
    (fun M pre x a' Wc => ∃ (X : Nat), (M = [] ∧ pre.length ≤ fs.length ∧ (∀ rest, meetL (pre ++ rest) fs = meetL rest (fs.drop pre.length)) ∧ w3.heap.size ≤ X ∧ a' = ⟨(Ac.tmps.setIfInBounds 14 (.agg x.a)).setIfInBounds 9 (.pointer (some ⟨X, 0, none⟩)), []⟩) ∧ Fr [w.heap.size + 1 + 1 + 1] w3 Wc ∧ Blk Wc (w.heap.size + 1 + 1 + 1) 3 #[.int .i64 (pre.length : Nat)] ∧ Blk Wc X 43 x.a)
    ?hI ?hIx ?hIa ?hIl ⟨⟨rfl, by simp, fun rest => rfl⟩, Fr.refl _ _, D8⟩
    ?assign ?body ?done ?stop)
  case hI => exact fun M => OwnFrom.and (own_pure _) (OwnFrom.and (ownFrom_fr (Nat.le_refl _)) ((own_blk _ _ (fun pre : List Ord => #[.int .i64 ((pre.length : Nat) : Int)])).from _))
  case hIx => exact fun c M => own_ex fun p => OwnFrom.and (own_pure _) (OwnFrom.and (ownFrom_fr (Nat.le_refl _)) (OwnFrom.and ((own_blk _ _ _).from _) ((own_blk _ _ _).from _)))
  case hIa => exact fun M pre x => own_ex fun X => OwnFrom.and (own_pure _) (OwnFrom.and (ownFrom_fr (Nat.le_refl _)) (OwnFrom.and ((own_blk _ _ _).from _) ((own_blk _ _ _).from _)))
  case hIl =>
    rintro M pre Wc ⟨⟨rfl, _⟩, _⟩ k hk
    cases hk
  case assign =>
    rintro l M pre x Wc Kk ⟨hp, G, G8⟩ hpx hK
    subst hA
    simp only [List.setIfInBounds_toArray, List.set_cons_zero, List.set_cons_succ] at hK
    have HP := Lib.hid hp
    clear hp hA1 D5 D6 D7 D8 E1 E2 hBk
    gi_wp2
    have FA : Fr [] Wc (Wc.alloc (.cells x.a 43)) := (Fr.refl _ _).alloc _
    exact hK _ _ (keeps_alloc _) (KeepM.of_fr FA (by simp) (fun y hy => ⟨Nat.lt_of_lt_of_le (hTT y hy).1 G.size, by simp⟩)) ⟨Wc.heap.size, ⟨HP.out.1, HP.out.2.1, HP.out.2.2, G.size, rfl⟩, G.alloc _, G8.alloc _, Blk.new _ _ _⟩
  case done =>
    rintro Dd M Wc hD ⟨⟨rfl, hle, hp⟩, G, G8⟩ hK
    subst hA
    have hspec : meetL Y fs = none := by have := hp []; simpa [meetL] using this
    have G6 := Blk.via G (by simp) D6
    have G7 := Blk.via G (by simp) D7
    have HSp := Lib.hid hspec
    have HK := Lib.hid hK
    have c6 := G6.cell
    have f6 := G6.frozen
    have l6 := G6.lt
    have c7 := G7.cell
    have f7 := G7.frozen
    have l7 := G7.lt
    clear hp hspec hK hA1 D5 D6 D7 D8 E1 E2 hBk
    go_wp2_with fail
    have FW : Fr [w.heap.size + 1, w.heap.size + 1 + 1] Wc ((Wc.setCell ⟨w.heap.size + 1, 0, none⟩ (.int .i64 0)).setCell ⟨w.heap.size + 1 + 1, 0, none⟩ (.bool false)) := ((Fr.refl _ _).setIn (by simp)).setIn (by simp)
    have H6 : Blk ((Wc.setCell ⟨w.heap.size + 1, 0, none⟩ (.int .i64 0)).setCell ⟨w.heap.size + 1 + 1, 0, none⟩ (.bool false)) (w.heap.size + 1) 2 #[.int .i64 0] := ((G6.same 0 _).off (by omega)).cast rfl
    have H7 : Blk ((Wc.setCell ⟨w.heap.size + 1, 0, none⟩ (.int .i64 0)).setCell ⟨w.heap.size + 1 + 1, 0, none⟩ (.bool false)) (w.heap.size + 1 + 1) 4 #[.bool false] := ((G7.off (by omega)).same 0 _).cast rfl
    have k1 := def_fr FW HK.out (by simp; omega)
    have d6 := (blk_put (o' := .deferred none) H6 k1 rfl).cell
    have d7 := (blk_put (o' := .deferred none) H7 k1 rfl).cell
    refine ⟨by simp, .inl ⟨_, _, rfl, run_takeDeferred k1, ?_⟩⟩
    refine ⟨.tuple #[.int .i64 0, .bool false], ?_, ?_, ?_⟩
    · simp [results, Try.f157, go_sem, d6, d7]
    · rw [HSp.out]; rfl
    · exact fr_put (fr_fresh ((G.mono (S' := [w.heap.size + 1, w.heap.size + 1 + 1, w.heap.size + 1 + 1 + 1]) (by simp)).trans (FW.mono (by simp))) (by simp; omega) F3) (by omega)
  case stop =>
    rintro Dd c M pre Wc hD hpre ⟨p, ⟨rfl, hp⟩, G, G6, G7⟩ hK
    refine wpIn_wide.2 ?_
    subst hA
    have hspec : meetL Y fs = some p := by
      obtain ⟨r, hr⟩ := hpre
      rw [← hr]; exact hp r
    have HSp := Lib.hid hspec
    have HK := Lib.hid hK
    clear hp hspec hK hA1 D5 D6 D7 D8 E1 E2 hBk
    go_wp2_with fail
    have d6 := (blk_put (o' := .deferred none) G6 HK.out rfl).cell
    have d7 := (blk_put (o' := .deferred none) G7 HK.out rfl).cell
    refine ⟨by simp, .inl ⟨_, _, rfl, run_takeDeferred HK.out, ?_⟩⟩
    refine ⟨.tuple #[.int .i64 p, .bool true], ?_, ?_, ?_⟩
    · simp [results, Try.f157, go_sem, d6, d7]
    · rw [HSp.out]; rfl
    · exact fr_put (fr_fresh G (by simp; omega) F3) (by omega)
  case body =>
    rintro l M pre x a' Wc hll _ ⟨X, ⟨rfl, hle, hp, hX, rfl⟩, G, G8, GX⟩ hpx
    subst hA
    simp only [List.setIfInBounds_toArray, List.set_cons_zero, List.set_cons_succ]
    have G5 := Blk.via G (by simp <;> omega) D5
    have G6 := Blk.via G (by simp) D6
    have G7 := Blk.via G (by simp) D7
    have R5 : RowF Wc (.slice A fs.length c) fs := (HR.out.fr F3 (by simp)).fr G (fun g hg hm => by have := HRl.out g hg; simp at hm; omega)
    have HP := Lib.hid hp
    have HPX := Lib.hid hpx
    have hlenp : pre.length ≤ 10000 := by omega
    have c6 := G6.cell
    have f6 := G6.frozen
    have l6 := G6.lt
    have c7 := G7.cell
    have f7 := G7.frozen
    have l7 := G7.lt
    have cX := GX.cell
    have c8 := G8.cell
    have f8 := G8.frozen
    have l8 := G8.lt
    have hFf : ∀ k, Fence.wide.fn k := fun _ => trivial
    have hFd : Fence.wide.depth = none := rfl
    clear hp hpx hA1 D5 D6 D7 D8 E1 E2 hBk
    have j0 : (0 : Int) ≤ (pre.length : Int) := by omega
    by_cases hlt : pre.length < fs.length
    · have j1 : (pre.length : Int) < (fs.length : Int) := by omega
      obtain ⟨f, hf⟩ : ∃ f, fs[pre.length]? = some f := ⟨_, List.getElem?_eq_getElem hlt⟩
      obtain ⟨g, c', e, _, hg, hcell⟩ := R5.at encF_ok.len (by omega)
      injection e with e1 _ e2
      subst e1; subst e2
      have hgX : ∀ W', Fr [] Wc W' → W'.cell? ⟨g, pre.length * 4, none⟩ = some (.int .i64 f.id) ∧ W'.cell? ⟨g, pre.length * 4 + 2, none⟩ = some (.int .i64 f.qt) := fun W' hf' => by
        refine ⟨(hf'.cell g _ hg).trans ?_, (hf'.cell g _ hg).trans (hcell _ f hf 2 _ rfl)⟩
        simpa using hcell _ f hf 0 _ rfl
      have HGX := Lib.hid hgX
      have hdrop : fs.drop pre.length = f :: fs.drop (pre.length + 1) := by rw [List.drop_eq_getElem_cons hlt]; congr 1; rw [List.getElem?_eq_getElem hlt] at hf; exact Option.some.inj hf
      have HD := Lib.hid hdrop
      clear hcell hgX hdrop
      by_cases hid : f.id = x.id
      · by_cases hqt : f.qt = x.qt
        · have HSTEP : Hid (∀ rest, meetL (pre ++ [x] ++ rest) fs = meetL rest (fs.drop (pre.length + 1))) := Lib.hid fun rest => by
            rw [List.append_assoc, HP.out, HD.out]; simp [meetL, hid, hqt]
          have e1 : (f.id == x.id) = true := by simpa using hid
          have e2 : (f.qt == x.qt) = true := by simpa using hqt
          clear hid hqt
          gi_wp2
          refine qw_round (by kernel_rfl) (fun ⟨_, _, h⟩ => h) (by kernel_rfl) (by kernel_rfl) ?_; (with_reducible apply qw_do; (kernel_rfl); (focus (intro W hC; (obtain ⟨g0, g2⟩ := HGX.out W hC; have k5 := (Blk.via hC (by simp) G5).cell; have k8 := (Blk.via hC (by simp) G8).cell; have kX := (Blk.via hC (by simp) GX).cell); go_simp; (first | (fail) | done | rfl | exact ⟨rfl, rfl⟩))); (try simp only [Act.put, List.getElem_toArray, List.getElem_cons_succ, List.getElem_cons_zero, List.setIfInBounds_toArray, List.set_cons_zero, List.set_cons_succ])); (with_reducible apply qw_do; (kernel_rfl); (focus (intro W hC; (obtain ⟨g0, g2⟩ := HGX.out W hC; have k5 := (Blk.via hC (by simp) G5).cell; have k8 := (Blk.via hC (by simp) G8).cell; have kX := (Blk.via hC (by simp) GX).cell); go_simp; (first | (fail) | done | rfl | exact ⟨rfl, rfl⟩))); (try simp only [Act.put, List.getElem_toArray, List.getElem_cons_succ, List.getElem_cons_zero, List.setIfInBounds_toArray, List.set_cons_zero, List.set_cons_succ])); (with_reducible apply qw_do; (kernel_rfl); (focus (intro W hC; (obtain ⟨g0, g2⟩ := HGX.out W hC; have k5 := (Blk.via hC (by simp) G5).cell; have k8 := (Blk.via hC (by simp) G8).cell; have kX := (Blk.via hC (by simp) GX).cell); go_simp; (first | (fail) | done | rfl | exact ⟨rfl, rfl⟩))); (try simp only [Act.put, List.getElem_toArray, List.getElem_cons_succ, List.getElem_cons_zero, List.setIfInBounds_toArray, List.set_cons_zero, List.set_cons_succ])); (with_reducible apply qw_do; (kernel_rfl); (focus (intro W hC; (obtain ⟨g0, g2⟩ := HGX.out W hC; have k5 := (Blk.via hC (by simp) G5).cell; have k8 := (Blk.via hC (by simp) G8).cell; have kX := (Blk.via hC (by simp) GX).cell); go_simp; (first | (fail) | done | rfl | exact ⟨rfl, rfl⟩))); (try simp only [Act.put, List.getElem_toArray, List.getElem_cons_succ, List.getElem_cons_zero, List.setIfInBounds_toArray, List.set_cons_zero, List.set_cons_succ])); (with_reducible apply qw_do; (kernel_rfl); (focus (intro W hC; (obtain ⟨g0, g2⟩ := HGX.out W hC; have k5 := (Blk.via hC (by simp) G5).cell; have k8 := (Blk.via hC (by simp) G8).cell; have kX := (Blk.via hC (by simp) GX).cell); go_simp; (first | (fail) | done | rfl | exact ⟨rfl, rfl⟩))); (try simp only [Act.put, List.getElem_toArray, List.getElem_cons_succ, List.getElem_cons_zero, List.setIfInBounds_toArray, List.set_cons_zero, List.set_cons_succ])); (with_reducible apply qw_do; (kernel_rfl); (focus (intro W hC; (obtain ⟨g0, g2⟩ := HGX.out W hC; have k5 := (Blk.via hC (by simp) G5).cell; have k8 := (Blk.via hC (by simp) G8).cell; have kX := (Blk.via hC (by simp) GX).cell); go_simp; (first | (fail) | done | rfl | exact ⟨rfl, rfl⟩))); (try simp only [Act.put, List.getElem_toArray, List.getElem_cons_succ, List.getElem_cons_zero, List.setIfInBounds_toArray, List.set_cons_zero, List.set_cons_succ])); (with_reducible apply qw_do; (kernel_rfl); (focus (intro W hC; (obtain ⟨g0, g2⟩ := HGX.out W hC; have k5 := (Blk.via hC (by simp) G5).cell; have k8 := (Blk.via hC (by simp) G8).cell; have kX := (Blk.via hC (by simp) GX).cell); go_simp; (first | (fail) | done | rfl | exact ⟨rfl, rfl⟩))); (try simp only [Act.put, List.getElem_toArray, List.getElem_cons_succ, List.getElem_cons_zero, List.setIfInBounds_toArray, List.set_cons_zero, List.set_cons_succ])); (with_reducible apply qw_do; (kernel_rfl); (focus (intro W hC; (obtain ⟨g0, g2⟩ := HGX.out W hC; have k5 := (Blk.via hC (by simp) G5).cell; have k8 := (Blk.via hC (by simp) G8).cell; have kX := (Blk.via hC (by simp) GX).cell); go_simp; (first | (fail) | done | rfl | exact ⟨rfl, rfl⟩))); (try simp only [Act.put, List.getElem_toArray, List.getElem_cons_succ, List.getElem_cons_zero, List.setIfInBounds_toArray, List.set_cons_zero, List.set_cons_succ])); (with_reducible apply qw_do; (kernel_rfl); (focus (intro W hC; (obtain ⟨g0, g2⟩ := HGX.out W hC; have k5 := (Blk.via hC (by simp) G5).cell; have k8 := (Blk.via hC (by simp) G8).cell; have kX := (Blk.via hC (by simp) GX).cell); go_simp; (first | (fail) | done | rfl | exact ⟨rfl, rfl⟩))); (try simp only [Act.put, List.getElem_toArray, List.getElem_cons_succ, List.getElem_cons_zero, List.setIfInBounds_toArray, List.set_cons_zero, List.set_cons_succ])); (with_reducible apply qw_do; (kernel_rfl); (focus (intro W hC; (obtain ⟨g0, g2⟩ := HGX.out W hC; have k5 := (Blk.via hC (by simp) G5).cell; have k8 := (Blk.via hC (by simp) G8).cell; have kX := (Blk.via hC (by simp) GX).cell); go_simp; (first | (fail) | done | rfl | exact ⟨rfl, rfl⟩))); (try simp only [Act.put, List.getElem_toArray, List.getElem_cons_succ, List.getElem_cons_zero, List.setIfInBounds_toArray, List.set_cons_zero, List.set_cons_succ])); (with_reducible apply qw_do; (kernel_rfl); (focus (intro W hC; (obtain ⟨g0, g2⟩ := HGX.out W hC; have k5 := (Blk.via hC (by simp) G5).cell; have k8 := (Blk.via hC (by simp) G8).cell; have kX := (Blk.via hC (by simp) GX).cell); go_simp; (first | (fail) | done | rfl | exact ⟨rfl, rfl⟩))); (try simp only [Act.put, List.getElem_toArray, List.getElem_cons_succ, List.getElem_cons_zero, List.setIfInBounds_toArray, List.set_cons_zero, List.set_cons_succ])); (with_reducible apply qw_do; (kernel_rfl); (focus (intro W hC; (obtain ⟨g0, g2⟩ := HGX.out W hC; have k5 := (Blk.via hC (by simp) G5).cell; have k8 := (Blk.via hC (by simp) G8).cell; have kX := (Blk.via hC (by simp) GX).cell); go_simp; (first | (fail) | done | rfl | exact ⟨rfl, rfl⟩))); (try simp only [Act.put, List.getElem_toArray, List.getElem_cons_succ, List.getElem_cons_zero, List.setIfInBounds_toArray, List.set_cons_zero, List.set_cons_succ])); (with_reducible apply qw_do; (kernel_rfl); (focus (intro W hC; (obtain ⟨g0, g2⟩ := HGX.out W hC; have k5 := (Blk.via hC (by simp) G5).cell; have k8 := (Blk.via hC (by simp) G8).cell; have kX := (Blk.via hC (by simp) GX).cell); go_simp; (first | (fail) | done | rfl | exact ⟨rfl, rfl⟩))); (try simp only [Act.put, List.getElem_toArray, List.getElem_cons_succ, List.getElem_cons_zero, List.setIfInBounds_toArray, List.set_cons_zero, List.set_cons_succ])); (with_reducible apply qw_do; (kernel_rfl); (focus (intro W hC; (obtain ⟨g0, g2⟩ := HGX.out W hC; have k5 := (Blk.via hC (by simp) G5).cell; have k8 := (Blk.via hC (by simp) G8).cell; have kX := (Blk.via hC (by simp) GX).cell); go_simp; (first | (fail) | done | rfl | exact ⟨rfl, rfl⟩))); (try simp only [Act.put, List.getElem_toArray, List.getElem_cons_succ, List.getElem_cons_zero, List.setIfInBounds_toArray, List.set_cons_zero, List.set_cons_succ])); (with_reducible apply qw_do; (kernel_rfl); (focus (intro W hC; (obtain ⟨g0, g2⟩ := HGX.out W hC; have k5 := (Blk.via hC (by simp) G5).cell; have k8 := (Blk.via hC (by simp) G8).cell; have kX := (Blk.via hC (by simp) GX).cell); go_simp; (first | (fail) | done | rfl | exact ⟨rfl, rfl⟩))); (try simp only [Act.put, List.getElem_toArray, List.getElem_cons_succ, List.getElem_cons_zero, List.setIfInBounds_toArray, List.set_cons_zero, List.set_cons_succ])); (with_reducible apply qw_do; (kernel_rfl); (focus (intro W hC; (obtain ⟨g0, g2⟩ := HGX.out W hC; have k5 := (Blk.via hC (by simp) G5).cell; have k8 := (Blk.via hC (by simp) G8).cell; have kX := (Blk.via hC (by simp) GX).cell); go_simp; (first | (fail) | done | rfl | exact ⟨rfl, rfl⟩))); (try simp only [Act.put, List.getElem_toArray, List.getElem_cons_succ, List.getElem_cons_zero, List.setIfInBounds_toArray, List.set_cons_zero, List.set_cons_succ])); (with_reducible apply qw_do; (kernel_rfl); (focus (intro W hC; (obtain ⟨g0, g2⟩ := HGX.out W hC; have k5 := (Blk.via hC (by simp) G5).cell; have k8 := (Blk.via hC (by simp) G8).cell; have kX := (Blk.via hC (by simp) GX).cell); go_simp; (first | (fail) | done | rfl | exact ⟨rfl, rfl⟩))); (try simp only [Act.put, List.getElem_toArray, List.getElem_cons_succ, List.getElem_cons_zero, List.setIfInBounds_toArray, List.set_cons_zero, List.set_cons_succ])); (with_reducible apply qw_do; (kernel_rfl); (focus (intro W hC; (obtain ⟨g0, g2⟩ := HGX.out W hC; have k5 := (Blk.via hC (by simp) G5).cell; have k8 := (Blk.via hC (by simp) G8).cell; have kX := (Blk.via hC (by simp) GX).cell); go_simp; (first | (fail) | done | rfl | exact ⟨rfl, rfl⟩))); (try simp only [Act.put, List.getElem_toArray, List.getElem_cons_succ, List.getElem_cons_zero, List.setIfInBounds_toArray, List.set_cons_zero, List.set_cons_succ])); (with_reducible apply qw_do; (kernel_rfl); (focus (intro W hC; (obtain ⟨g0, g2⟩ := HGX.out W hC; have k5 := (Blk.via hC (by simp) G5).cell; have k8 := (Blk.via hC (by simp) G8).cell; have kX := (Blk.via hC (by simp) GX).cell); go_simp; (first | (fail) | done | rfl | exact ⟨rfl, rfl⟩))); (try simp only [Act.put, List.getElem_toArray, List.getElem_cons_succ, List.getElem_cons_zero, List.setIfInBounds_toArray, List.set_cons_zero, List.set_cons_succ])); (with_reducible apply qw_do; (kernel_rfl); (focus (intro W hC; (obtain ⟨g0, g2⟩ := HGX.out W hC; have k5 := (Blk.via hC (by simp) G5).cell; have k8 := (Blk.via hC (by simp) G8).cell; have kX := (Blk.via hC (by simp) GX).cell); go_simp; (first | (fail) | done | rfl | exact ⟨rfl, rfl⟩))); (try simp only [Act.put, List.getElem_toArray, List.getElem_cons_succ, List.getElem_cons_zero, List.setIfInBounds_toArray, List.set_cons_zero, List.set_cons_succ])); (with_reducible apply qw_do; (kernel_rfl); (focus (intro W hC; (obtain ⟨g0, g2⟩ := HGX.out W hC; have k5 := (Blk.via hC (by simp) G5).cell; have k8 := (Blk.via hC (by simp) G8).cell; have kX := (Blk.via hC (by simp) GX).cell); go_simp; (first | (fail) | done | rfl | exact ⟨rfl, rfl⟩))); (try simp only [Act.put, List.getElem_toArray, List.getElem_cons_succ, List.getElem_cons_zero, List.setIfInBounds_toArray, List.set_cons_zero, List.set_cons_succ])); (with_reducible apply qw_do; (kernel_rfl); (focus (intro W hC; (obtain ⟨g0, g2⟩ := HGX.out W hC; have k5 := (Blk.via hC (by simp) G5).cell; have k8 := (Blk.via hC (by simp) G8).cell; have kX := (Blk.via hC (by simp) GX).cell); go_simp; (first | (fail) | done | rfl | exact ⟨rfl, rfl⟩))); (try simp only [Act.put, List.getElem_toArray, List.getElem_cons_succ, List.getElem_cons_zero, List.setIfInBounds_toArray, List.set_cons_zero, List.set_cons_succ])); (with_reducible apply qw_do; (kernel_rfl); (focus (intro W hC; (obtain ⟨g0, g2⟩ := HGX.out W hC; have k5 := (Blk.via hC (by simp) G5).cell; have k8 := (Blk.via hC (by simp) G8).cell; have kX := (Blk.via hC (by simp) GX).cell); go_simp; (first | (fail) | done | rfl | exact ⟨rfl, rfl⟩))); (try simp only [Act.put, List.getElem_toArray, List.getElem_cons_succ, List.getElem_cons_zero, List.setIfInBounds_toArray, List.set_cons_zero, List.set_cons_succ])); (with_reducible apply qw_do; (kernel_rfl); (focus (intro W hC; (obtain ⟨g0, g2⟩ := HGX.out W hC; have k5 := (Blk.via hC (by simp) G5).cell; have k8 := (Blk.via hC (by simp) G8).cell; have kX := (Blk.via hC (by simp) GX).cell); go_simp; (first | (fail) | done | rfl | exact ⟨rfl, rfl⟩))); (try simp only [Act.put, List.getElem_toArray, List.getElem_cons_succ, List.getElem_cons_zero, List.setIfInBounds_toArray, List.set_cons_zero, List.set_cons_succ])); (with_reducible apply qw_do; (kernel_rfl); (focus (intro W hC; (obtain ⟨g0, g2⟩ := HGX.out W hC; have k5 := (Blk.via hC (by simp) G5).cell; have k8 := (Blk.via hC (by simp) G8).cell; have kX := (Blk.via hC (by simp) GX).cell); go_simp; (first | (fail) | done | rfl | exact ⟨rfl, rfl⟩))); (try simp only [Act.put, List.getElem_toArray, List.getElem_cons_succ, List.getElem_cons_zero, List.setIfInBounds_toArray, List.set_cons_zero, List.set_cons_succ])); (with_reducible apply qw_do; (kernel_rfl); (focus (intro W hC; (obtain ⟨g0, g2⟩ := HGX.out W hC; have k5 := (Blk.via hC (by simp) G5).cell; have k8 := (Blk.via hC (by simp) G8).cell; have kX := (Blk.via hC (by simp) GX).cell); go_simp; (first | (fail) | done | rfl | exact ⟨rfl, rfl⟩))); (try simp only [Act.put, List.getElem_toArray, List.getElem_cons_succ, List.getElem_cons_zero, List.setIfInBounds_toArray, List.set_cons_zero, List.set_cons_succ])); (with_reducible apply qw_do; (kernel_rfl); (focus (intro W hC; (obtain ⟨g0, g2⟩ := HGX.out W hC; have k5 := (Blk.via hC (by simp) G5).cell; have k8 := (Blk.via hC (by simp) G8).cell; have kX := (Blk.via hC (by simp) GX).cell); go_simp; (first | (fail) | done | rfl | exact ⟨rfl, rfl⟩))); (try simp only [Act.put, List.getElem_toArray, List.getElem_cons_succ, List.getElem_cons_zero, List.setIfInBounds_toArray, List.set_cons_zero, List.set_cons_succ])); with_reducible refine qw_nil ?_
          intro W4 F4
          have K8 := Blk.via F4 (by simp) G8
          have d8 := K8.cell
          have e8 := K8.frozen
          have m8 := K8.lt
          clear c6 f6 l6 c7 f7 l7 cX c8 f8 l8
          gi_wp2
          have F5 : Fr [w.heap.size + 1 + 1 + 1] Wc (W4.setCell ⟨w.heap.size + 1 + 1 + 1, 0, none⟩ (.int .i64 ((pre.length : Int) + 1))) := (F4.mono (by simp)).setIn (by simp)
          refine ⟨keeps_fr F5 (by simp; omega), KeepM.of_fr F5 (by simp; omega) (fun y hy => ⟨Nat.lt_of_lt_of_le (hTT y hy).1 G.size, by simpa using (hTT y hy).2.2.2⟩), [], by simp, ⟨rfl, by simp; omega, by simpa using HSTEP.out⟩, G.trans F5, (K8.same 0 _).cast (by simp)⟩
        · have HSTEP : Hid (∀ rest, meetL (pre ++ [x] ++ rest) fs = some x.pr) := Lib.hid fun rest => by
            rw [List.append_assoc, HP.out, HD.out]; simp [meetL, hqt]
          have e1 : (f.id == x.id) = true := by simpa using hid
          have e2 : (f.qt == x.qt) = false := by simpa using hqt
          clear hid hqt
          gi_wp2
          refine qw_round (by kernel_rfl) (fun ⟨_, _, h⟩ => h) (by kernel_rfl) (by kernel_rfl) ?_; (with_reducible apply qw_do; (kernel_rfl); (focus (intro W hC; (obtain ⟨g0, g2⟩ := HGX.out W hC; have k5 := (Blk.via hC (by simp) G5).cell; have k8 := (Blk.via hC (by simp) G8).cell; have kX := (Blk.via hC (by simp) GX).cell); go_simp; (first | (fail) | done | rfl | exact ⟨rfl, rfl⟩))); (try simp only [Act.put, List.getElem_toArray, List.getElem_cons_succ, List.getElem_cons_zero, List.setIfInBounds_toArray, List.set_cons_zero, List.set_cons_succ])); (with_reducible apply qw_do; (kernel_rfl); (focus (intro W hC; (obtain ⟨g0, g2⟩ := HGX.out W hC; have k5 := (Blk.via hC (by simp) G5).cell; have k8 := (Blk.via hC (by simp) G8).cell; have kX := (Blk.via hC (by simp) GX).cell); go_simp; (first | (fail) | done | rfl | exact ⟨rfl, rfl⟩))); (try simp only [Act.put, List.getElem_toArray, List.getElem_cons_succ, List.getElem_cons_zero, List.setIfInBounds_toArray, List.set_cons_zero, List.set_cons_succ])); (with_reducible apply qw_do; (kernel_rfl); (focus (intro W hC; (obtain ⟨g0, g2⟩ := HGX.out W hC; have k5 := (Blk.via hC (by simp) G5).cell; have k8 := (Blk.via hC (by simp) G8).cell; have kX := (Blk.via hC (by simp) GX).cell); go_simp; (first | (fail) | done | rfl | exact ⟨rfl, rfl⟩))); (try simp only [Act.put, List.getElem_toArray, List.getElem_cons_succ, List.getElem_cons_zero, List.setIfInBounds_toArray, List.set_cons_zero, List.set_cons_succ])); (with_reducible apply qw_do; (kernel_rfl); (focus (intro W hC; (obtain ⟨g0, g2⟩ := HGX.out W hC; have k5 := (Blk.via hC (by simp) G5).cell; have k8 := (Blk.via hC (by simp) G8).cell; have kX := (Blk.via hC (by simp) GX).cell); go_simp; (first | (fail) | done | rfl | exact ⟨rfl, rfl⟩))); (try simp only [Act.put, List.getElem_toArray, List.getElem_cons_succ, List.getElem_cons_zero, List.setIfInBounds_toArray, List.set_cons_zero, List.set_cons_succ])); (with_reducible apply qw_do; (kernel_rfl); (focus (intro W hC; (obtain ⟨g0, g2⟩ := HGX.out W hC; have k5 := (Blk.via hC (by simp) G5).cell; have k8 := (Blk.via hC (by simp) G8).cell; have kX := (Blk.via hC (by simp) GX).cell); go_simp; (first | (fail) | done | rfl | exact ⟨rfl, rfl⟩))); (try simp only [Act.put, List.getElem_toArray, List.getElem_cons_succ, List.getElem_cons_zero, List.setIfInBounds_toArray, List.set_cons_zero, List.set_cons_succ])); (with_reducible apply qw_do; (kernel_rfl); (focus (intro W hC; (obtain ⟨g0, g2⟩ := HGX.out W hC; have k5 := (Blk.via hC (by simp) G5).cell; have k8 := (Blk.via hC (by simp) G8).cell; have kX := (Blk.via hC (by simp) GX).cell); go_simp; (first | (fail) | done | rfl | exact ⟨rfl, rfl⟩))); (try simp only [Act.put, List.getElem_toArray, List.getElem_cons_succ, List.getElem_cons_zero, List.setIfInBounds_toArray, List.set_cons_zero, List.set_cons_succ])); (with_reducible apply qw_do; (kernel_rfl); (focus (intro W hC; (obtain ⟨g0, g2⟩ := HGX.out W hC; have k5 := (Blk.via hC (by simp) G5).cell; have k8 := (Blk.via hC (by simp) G8).cell; have kX := (Blk.via hC (by simp) GX).cell); go_simp; (first | (fail) | done | rfl | exact ⟨rfl, rfl⟩))); (try simp only [Act.put, List.getElem_toArray, List.getElem_cons_succ, List.getElem_cons_zero, List.setIfInBounds_toArray, List.set_cons_zero, List.set_cons_succ])); (with_reducible apply qw_do; (kernel_rfl); (focus (intro W hC; (obtain ⟨g0, g2⟩ := HGX.out W hC; have k5 := (Blk.via hC (by simp) G5).cell; have k8 := (Blk.via hC (by simp) G8).cell; have kX := (Blk.via hC (by simp) GX).cell); go_simp; (first | (fail) | done | rfl | exact ⟨rfl, rfl⟩))); (try simp only [Act.put, List.getElem_toArray, List.getElem_cons_succ, List.getElem_cons_zero, List.setIfInBounds_toArray, List.set_cons_zero, List.set_cons_succ])); (with_reducible apply qw_do; (kernel_rfl); (focus (intro W hC; (obtain ⟨g0, g2⟩ := HGX.out W hC; have k5 := (Blk.via hC (by simp) G5).cell; have k8 := (Blk.via hC (by simp) G8).cell; have kX := (Blk.via hC (by simp) GX).cell); go_simp; (first | (fail) | done | rfl | exact ⟨rfl, rfl⟩))); (try simp only [Act.put, List.getElem_toArray, List.getElem_cons_succ, List.getElem_cons_zero, List.setIfInBounds_toArray, List.set_cons_zero, List.set_cons_succ])); (with_reducible apply qw_do; (kernel_rfl); (focus (intro W hC; (obtain ⟨g0, g2⟩ := HGX.out W hC; have k5 := (Blk.via hC (by simp) G5).cell; have k8 := (Blk.via hC (by simp) G8).cell; have kX := (Blk.via hC (by simp) GX).cell); go_simp; (first | (fail) | done | rfl | exact ⟨rfl, rfl⟩))); (try simp only [Act.put, List.getElem_toArray, List.getElem_cons_succ, List.getElem_cons_zero, List.setIfInBounds_toArray, List.set_cons_zero, List.set_cons_succ])); (with_reducible apply qw_do; (kernel_rfl); (focus (intro W hC; (obtain ⟨g0, g2⟩ := HGX.out W hC; have k5 := (Blk.via hC (by simp) G5).cell; have k8 := (Blk.via hC (by simp) G8).cell; have kX := (Blk.via hC (by simp) GX).cell); go_simp; (first | (fail) | done | rfl | exact ⟨rfl, rfl⟩))); (try simp only [Act.put, List.getElem_toArray, List.getElem_cons_succ, List.getElem_cons_zero, List.setIfInBounds_toArray, List.set_cons_zero, List.set_cons_succ])); (with_reducible apply qw_do; (kernel_rfl); (focus (intro W hC; (obtain ⟨g0, g2⟩ := HGX.out W hC; have k5 := (Blk.via hC (by simp) G5).cell; have k8 := (Blk.via hC (by simp) G8).cell; have kX := (Blk.via hC (by simp) GX).cell); go_simp; (first | (fail) | done | rfl | exact ⟨rfl, rfl⟩))); (try simp only [Act.put, List.getElem_toArray, List.getElem_cons_succ, List.getElem_cons_zero, List.setIfInBounds_toArray, List.set_cons_zero, List.set_cons_succ])); (with_reducible apply qw_do; (kernel_rfl); (focus (intro W hC; (obtain ⟨g0, g2⟩ := HGX.out W hC; have k5 := (Blk.via hC (by simp) G5).cell; have k8 := (Blk.via hC (by simp) G8).cell; have kX := (Blk.via hC (by simp) GX).cell); go_simp; (first | (fail) | done | rfl | exact ⟨rfl, rfl⟩))); (try simp only [Act.put, List.getElem_toArray, List.getElem_cons_succ, List.getElem_cons_zero, List.setIfInBounds_toArray, List.set_cons_zero, List.set_cons_succ])); (with_reducible apply qw_do; (kernel_rfl); (focus (intro W hC; (obtain ⟨g0, g2⟩ := HGX.out W hC; have k5 := (Blk.via hC (by simp) G5).cell; have k8 := (Blk.via hC (by simp) G8).cell; have kX := (Blk.via hC (by simp) GX).cell); go_simp; (first | (fail) | done | rfl | exact ⟨rfl, rfl⟩))); (try simp only [Act.put, List.getElem_toArray, List.getElem_cons_succ, List.getElem_cons_zero, List.setIfInBounds_toArray, List.set_cons_zero, List.set_cons_succ])); (with_reducible apply qw_do; (kernel_rfl); (focus (intro W hC; (obtain ⟨g0, g2⟩ := HGX.out W hC; have k5 := (Blk.via hC (by simp) G5).cell; have k8 := (Blk.via hC (by simp) G8).cell; have kX := (Blk.via hC (by simp) GX).cell); go_simp; (first | (fail) | done | rfl | exact ⟨rfl, rfl⟩))); (try simp only [Act.put, List.getElem_toArray, List.getElem_cons_succ, List.getElem_cons_zero, List.setIfInBounds_toArray, List.set_cons_zero, List.set_cons_succ])); (with_reducible apply qw_do; (kernel_rfl); (focus (intro W hC; (obtain ⟨g0, g2⟩ := HGX.out W hC; have k5 := (Blk.via hC (by simp) G5).cell; have k8 := (Blk.via hC (by simp) G8).cell; have kX := (Blk.via hC (by simp) GX).cell); go_simp; (first | (fail) | done | rfl | exact ⟨rfl, rfl⟩))); (try simp only [Act.put, List.getElem_toArray, List.getElem_cons_succ, List.getElem_cons_zero, List.setIfInBounds_toArray, List.set_cons_zero, List.set_cons_succ])); (with_reducible apply qw_do; (kernel_rfl); (focus (intro W hC; (obtain ⟨g0, g2⟩ := HGX.out W hC; have k5 := (Blk.via hC (by simp) G5).cell; have k8 := (Blk.via hC (by simp) G8).cell; have kX := (Blk.via hC (by simp) GX).cell); go_simp; (first | (fail) | done | rfl | exact ⟨rfl, rfl⟩))); (try simp only [Act.put, List.getElem_toArray, List.getElem_cons_succ, List.getElem_cons_zero, List.setIfInBounds_toArray, List.set_cons_zero, List.set_cons_succ])); (with_reducible apply qw_do; (kernel_rfl); (focus (intro W hC; (obtain ⟨g0, g2⟩ := HGX.out W hC; have k5 := (Blk.via hC (by simp) G5).cell; have k8 := (Blk.via hC (by simp) G8).cell; have kX := (Blk.via hC (by simp) GX).cell); go_simp; (first | (fail) | done | rfl | exact ⟨rfl, rfl⟩))); (try simp only [Act.put, List.getElem_toArray, List.getElem_cons_succ, List.getElem_cons_zero, List.setIfInBounds_toArray, List.set_cons_zero, List.set_cons_succ])); (with_reducible apply qw_do; (kernel_rfl); (focus (intro W hC; (obtain ⟨g0, g2⟩ := HGX.out W hC; have k5 := (Blk.via hC (by simp) G5).cell; have k8 := (Blk.via hC (by simp) G8).cell; have kX := (Blk.via hC (by simp) GX).cell); go_simp; (first | (fail) | done | rfl | exact ⟨rfl, rfl⟩))); (try simp only [Act.put, List.getElem_toArray, List.getElem_cons_succ, List.getElem_cons_zero, List.setIfInBounds_toArray, List.set_cons_zero, List.set_cons_succ])); (with_reducible apply qw_do; (kernel_rfl); (focus (intro W hC; (obtain ⟨g0, g2⟩ := HGX.out W hC; have k5 := (Blk.via hC (by simp) G5).cell; have k8 := (Blk.via hC (by simp) G8).cell; have kX := (Blk.via hC (by simp) GX).cell); go_simp; (first | (fail) | done | rfl | exact ⟨rfl, rfl⟩))); (try simp only [Act.put, List.getElem_toArray, List.getElem_cons_succ, List.getElem_cons_zero, List.setIfInBounds_toArray, List.set_cons_zero, List.set_cons_succ])); (with_reducible apply qw_do; (kernel_rfl); (focus (intro W hC; (obtain ⟨g0, g2⟩ := HGX.out W hC; have k5 := (Blk.via hC (by simp) G5).cell; have k8 := (Blk.via hC (by simp) G8).cell; have kX := (Blk.via hC (by simp) GX).cell); go_simp; (first | (fail) | done | rfl | exact ⟨rfl, rfl⟩))); (try simp only [Act.put, List.getElem_toArray, List.getElem_cons_succ, List.getElem_cons_zero, List.setIfInBounds_toArray, List.set_cons_zero, List.set_cons_succ])); (with_reducible apply qw_do; (kernel_rfl); (focus (intro W hC; (obtain ⟨g0, g2⟩ := HGX.out W hC; have k5 := (Blk.via hC (by simp) G5).cell; have k8 := (Blk.via hC (by simp) G8).cell; have kX := (Blk.via hC (by simp) GX).cell); go_simp; (first | (fail) | done | rfl | exact ⟨rfl, rfl⟩))); (try simp only [Act.put, List.getElem_toArray, List.getElem_cons_succ, List.getElem_cons_zero, List.setIfInBounds_toArray, List.set_cons_zero, List.set_cons_succ])); (with_reducible apply qw_do; (kernel_rfl); (focus (intro W hC; (obtain ⟨g0, g2⟩ := HGX.out W hC; have k5 := (Blk.via hC (by simp) G5).cell; have k8 := (Blk.via hC (by simp) G8).cell; have kX := (Blk.via hC (by simp) GX).cell); go_simp; (first | (fail) | done | rfl | exact ⟨rfl, rfl⟩))); (try simp only [Act.put, List.getElem_toArray, List.getElem_cons_succ, List.getElem_cons_zero, List.setIfInBounds_toArray, List.set_cons_zero, List.set_cons_succ])); (with_reducible apply qw_do; (kernel_rfl); (focus (intro W hC; (obtain ⟨g0, g2⟩ := HGX.out W hC; have k5 := (Blk.via hC (by simp) G5).cell; have k8 := (Blk.via hC (by simp) G8).cell; have kX := (Blk.via hC (by simp) GX).cell); go_simp; (first | (fail) | done | rfl | exact ⟨rfl, rfl⟩))); (try simp only [Act.put, List.getElem_toArray, List.getElem_cons_succ, List.getElem_cons_zero, List.setIfInBounds_toArray, List.set_cons_zero, List.set_cons_succ])); (with_reducible apply qw_do; (kernel_rfl); (focus (intro W hC; (obtain ⟨g0, g2⟩ := HGX.out W hC; have k5 := (Blk.via hC (by simp) G5).cell; have k8 := (Blk.via hC (by simp) G8).cell; have kX := (Blk.via hC (by simp) GX).cell); go_simp; (first | (fail) | done | rfl | exact ⟨rfl, rfl⟩))); (try simp only [Act.put, List.getElem_toArray, List.getElem_cons_succ, List.getElem_cons_zero, List.setIfInBounds_toArray, List.set_cons_zero, List.set_cons_succ])); (with_reducible apply qw_do; (kernel_rfl); (focus (intro W hC; (obtain ⟨g0, g2⟩ := HGX.out W hC; have k5 := (Blk.via hC (by simp) G5).cell; have k8 := (Blk.via hC (by simp) G8).cell; have kX := (Blk.via hC (by simp) GX).cell); go_simp; (first | (fail) | done | rfl | exact ⟨rfl, rfl⟩))); (try simp only [Act.put, List.getElem_toArray, List.getElem_cons_succ, List.getElem_cons_zero, List.setIfInBounds_toArray, List.set_cons_zero, List.set_cons_succ])); (with_reducible apply qw_do; (kernel_rfl); (focus (intro W hC; (obtain ⟨g0, g2⟩ := HGX.out W hC; have k5 := (Blk.via hC (by simp) G5).cell; have k8 := (Blk.via hC (by simp) G8).cell; have kX := (Blk.via hC (by simp) GX).cell); go_simp; (first | (fail) | done | rfl | exact ⟨rfl, rfl⟩))); (try simp only [Act.put, List.getElem_toArray, List.getElem_cons_succ, List.getElem_cons_zero, List.setIfInBounds_toArray, List.set_cons_zero, List.set_cons_succ])); with_reducible refine qw_nil ?_
          intro W4 F4
          have K6 := Blk.via F4 (by simp) G6
          have K7 := Blk.via F4 (by simp) G7
          have KX := Blk.via F4 (by simp) GX
          have d6 := K6.cell
          have e6 := K6.frozen
          have m6 := K6.lt
          have d7 := K7.cell
          have e7 := K7.frozen
          have m7 := K7.lt
          have dX := KX.cell
          clear c6 f6 l6 c7 f7 l7 cX c8 f8 l8
          gi_wp2
          have F5 : Fr [w.heap.size + 1, w.heap.size + 1 + 1] Wc ((W4.setCell ⟨w.heap.size + 1, 0, none⟩ (.int .i64 x.pr)).setCell ⟨w.heap.size + 1 + 1, 0, none⟩ (.bool true)) := ((F4.mono (by simp)).setIn (by simp)).setIn (by simp)
          exact ⟨keeps_fr F5 (by simp; omega), [], x.pr, ⟨rfl, HSTEP.out⟩, (G.mono (by simp)).trans (F5.mono (by simp)), ((K6.same 0 _).off (by omega)).cast rfl, ((K7.off (by omega)).same 0 _).cast rfl⟩
      · have HSTEP : Hid (∀ rest, meetL (pre ++ [x] ++ rest) fs = some x.pr) := Lib.hid fun rest => by
          rw [List.append_assoc, HP.out, HD.out]; simp [meetL, hid]
        have e1 : (f.id == x.id) = false := by simpa using hid
        clear hid
        gi_wp2
        refine qw_round (by kernel_rfl) (fun ⟨_, _, h⟩ => h) (by kernel_rfl) (by kernel_rfl) ?_; (with_reducible apply qw_do; (kernel_rfl); (focus (intro W hC; (obtain ⟨g0, g2⟩ := HGX.out W hC; have k5 := (Blk.via hC (by simp) G5).cell; have k8 := (Blk.via hC (by simp) G8).cell; have kX := (Blk.via hC (by simp) GX).cell); go_simp; (first | (fail) | done | rfl | exact ⟨rfl, rfl⟩))); (try simp only [Act.put, List.getElem_toArray, List.getElem_cons_succ, List.getElem_cons_zero, List.setIfInBounds_toArray, List.set_cons_zero, List.set_cons_succ])); (with_reducible apply qw_do; (kernel_rfl); (focus (intro W hC; (obtain ⟨g0, g2⟩ := HGX.out W hC; have k5 := (Blk.via hC (by simp) G5).cell; have k8 := (Blk.via hC (by simp) G8).cell; have kX := (Blk.via hC (by simp) GX).cell); go_simp; (first | (fail) | done | rfl | exact ⟨rfl, rfl⟩))); (try simp only [Act.put, List.getElem_toArray, List.getElem_cons_succ, List.getElem_cons_zero, List.setIfInBounds_toArray, List.set_cons_zero, List.set_cons_succ])); (with_reducible apply qw_do; (kernel_rfl); (focus (intro W hC; (obtain ⟨g0, g2⟩ := HGX.out W hC; have k5 := (Blk.via hC (by simp) G5).cell; have k8 := (Blk.via hC (by simp) G8).cell; have kX := (Blk.via hC (by simp) GX).cell); go_simp; (first | (fail) | done | rfl | exact ⟨rfl, rfl⟩))); (try simp only [Act.put, List.getElem_toArray, List.getElem_cons_succ, List.getElem_cons_zero, List.setIfInBounds_toArray, List.set_cons_zero, List.set_cons_succ])); (with_reducible apply qw_do; (kernel_rfl); (focus (intro W hC; (obtain ⟨g0, g2⟩ := HGX.out W hC; have k5 := (Blk.via hC (by simp) G5).cell; have k8 := (Blk.via hC (by simp) G8).cell; have kX := (Blk.via hC (by simp) GX).cell); go_simp; (first | (fail) | done | rfl | exact ⟨rfl, rfl⟩))); (try simp only [Act.put, List.getElem_toArray, List.getElem_cons_succ, List.getElem_cons_zero, List.setIfInBounds_toArray, List.set_cons_zero, List.set_cons_succ])); (with_reducible apply qw_do; (kernel_rfl); (focus (intro W hC; (obtain ⟨g0, g2⟩ := HGX.out W hC; have k5 := (Blk.via hC (by simp) G5).cell; have k8 := (Blk.via hC (by simp) G8).cell; have kX := (Blk.via hC (by simp) GX).cell); go_simp; (first | (fail) | done | rfl | exact ⟨rfl, rfl⟩))); (try simp only [Act.put, List.getElem_toArray, List.getElem_cons_succ, List.getElem_cons_zero, List.setIfInBounds_toArray, List.set_cons_zero, List.set_cons_succ])); (with_reducible apply qw_do; (kernel_rfl); (focus (intro W hC; (obtain ⟨g0, g2⟩ := HGX.out W hC; have k5 := (Blk.via hC (by simp) G5).cell; have k8 := (Blk.via hC (by simp) G8).cell; have kX := (Blk.via hC (by simp) GX).cell); go_simp; (first | (fail) | done | rfl | exact ⟨rfl, rfl⟩))); (try simp only [Act.put, List.getElem_toArray, List.getElem_cons_succ, List.getElem_cons_zero, List.setIfInBounds_toArray, List.set_cons_zero, List.set_cons_succ])); (with_reducible apply qw_do; (kernel_rfl); (focus (intro W hC; (obtain ⟨g0, g2⟩ := HGX.out W hC; have k5 := (Blk.via hC (by simp) G5).cell; have k8 := (Blk.via hC (by simp) G8).cell; have kX := (Blk.via hC (by simp) GX).cell); go_simp; (first | (fail) | done | rfl | exact ⟨rfl, rfl⟩))); (try simp only [Act.put, List.getElem_toArray, List.getElem_cons_succ, List.getElem_cons_zero, List.setIfInBounds_toArray, List.set_cons_zero, List.set_cons_succ])); (with_reducible apply qw_do; (kernel_rfl); (focus (intro W hC; (obtain ⟨g0, g2⟩ := HGX.out W hC; have k5 := (Blk.via hC (by simp) G5).cell; have k8 := (Blk.via hC (by simp) G8).cell; have kX := (Blk.via hC (by simp) GX).cell); go_simp; (first | (fail) | done | rfl | exact ⟨rfl, rfl⟩))); (try simp only [Act.put, List.getElem_toArray, List.getElem_cons_succ, List.getElem_cons_zero, List.setIfInBounds_toArray, List.set_cons_zero, List.set_cons_succ])); (with_reducible apply qw_do; (kernel_rfl); (focus (intro W hC; (obtain ⟨g0, g2⟩ := HGX.out W hC; have k5 := (Blk.via hC (by simp) G5).cell; have k8 := (Blk.via hC (by simp) G8).cell; have kX := (Blk.via hC (by simp) GX).cell); go_simp; (first | (fail) | done | rfl | exact ⟨rfl, rfl⟩))); (try simp only [Act.put, List.getElem_toArray, List.getElem_cons_succ, List.getElem_cons_zero, List.setIfInBounds_toArray, List.set_cons_zero, List.set_cons_succ])); (with_reducible apply qw_do; (kernel_rfl); (focus (intro W hC; (obtain ⟨g0, g2⟩ := HGX.out W hC; have k5 := (Blk.via hC (by simp) G5).cell; have k8 := (Blk.via hC (by simp) G8).cell; have kX := (Blk.via hC (by simp) GX).cell); go_simp; (first | (fail) | done | rfl | exact ⟨rfl, rfl⟩))); (try simp only [Act.put, List.getElem_toArray, List.getElem_cons_succ, List.getElem_cons_zero, List.setIfInBounds_toArray, List.set_cons_zero, List.set_cons_succ])); (with_reducible apply qw_do; (kernel_rfl); (focus (intro W hC; (obtain ⟨g0, g2⟩ := HGX.out W hC; have k5 := (Blk.via hC (by simp) G5).cell; have k8 := (Blk.via hC (by simp) G8).cell; have kX := (Blk.via hC (by simp) GX).cell); go_simp; (first | (fail) | done | rfl | exact ⟨rfl, rfl⟩))); (try simp only [Act.put, List.getElem_toArray, List.getElem_cons_succ, List.getElem_cons_zero, List.setIfInBounds_toArray, List.set_cons_zero, List.set_cons_succ])); (with_reducible apply qw_do; (kernel_rfl); (focus (intro W hC; (obtain ⟨g0, g2⟩ := HGX.out W hC; have k5 := (Blk.via hC (by simp) G5).cell; have k8 := (Blk.via hC (by simp) G8).cell; have kX := (Blk.via hC (by simp) GX).cell); go_simp; (first | (fail) | done | rfl | exact ⟨rfl, rfl⟩))); (try simp only [Act.put, List.getElem_toArray, List.getElem_cons_succ, List.getElem_cons_zero, List.setIfInBounds_toArray, List.set_cons_zero, List.set_cons_succ])); (with_reducible apply qw_do; (kernel_rfl); (focus (intro W hC; (obtain ⟨g0, g2⟩ := HGX.out W hC; have k5 := (Blk.via hC (by simp) G5).cell; have k8 := (Blk.via hC (by simp) G8).cell; have kX := (Blk.via hC (by simp) GX).cell); go_simp; (first | (fail) | done | rfl | exact ⟨rfl, rfl⟩))); (try simp only [Act.put, List.getElem_toArray, List.getElem_cons_succ, List.getElem_cons_zero, List.setIfInBounds_toArray, List.set_cons_zero, List.set_cons_succ])); (with_reducible apply qw_do; (kernel_rfl); (focus (intro W hC; (obtain ⟨g0, g2⟩ := HGX.out W hC; have k5 := (Blk.via hC (by simp) G5).cell; have k8 := (Blk.via hC (by simp) G8).cell; have kX := (Blk.via hC (by simp) GX).cell); go_simp; (first | (fail) | done | rfl | exact ⟨rfl, rfl⟩))); (try simp only [Act.put, List.getElem_toArray, List.getElem_cons_succ, List.getElem_cons_zero, List.setIfInBounds_toArray, List.set_cons_zero, List.set_cons_succ])); (with_reducible apply qw_do; (kernel_rfl); (focus (intro W hC; (obtain ⟨g0, g2⟩ := HGX.out W hC; have k5 := (Blk.via hC (by simp) G5).cell; have k8 := (Blk.via hC (by simp) G8).cell; have kX := (Blk.via hC (by simp) GX).cell); go_simp; (first | (fail) | done | rfl | exact ⟨rfl, rfl⟩))); (try simp only [Act.put, List.getElem_toArray, List.getElem_cons_succ, List.getElem_cons_zero, List.setIfInBounds_toArray, List.set_cons_zero, List.set_cons_succ])); (with_reducible apply qw_do; (kernel_rfl); (focus (intro W hC; (obtain ⟨g0, g2⟩ := HGX.out W hC; have k5 := (Blk.via hC (by simp) G5).cell; have k8 := (Blk.via hC (by simp) G8).cell; have kX := (Blk.via hC (by simp) GX).cell); go_simp; (first | (fail) | done | rfl | exact ⟨rfl, rfl⟩))); (try simp only [Act.put, List.getElem_toArray, List.getElem_cons_succ, List.getElem_cons_zero, List.setIfInBounds_toArray, List.set_cons_zero, List.set_cons_succ])); (with_reducible apply qw_do; (kernel_rfl); (focus (intro W hC; (obtain ⟨g0, g2⟩ := HGX.out W hC; have k5 := (Blk.via hC (by simp) G5).cell; have k8 := (Blk.via hC (by simp) G8).cell; have kX := (Blk.via hC (by simp) GX).cell); go_simp; (first | (fail) | done | rfl | exact ⟨rfl, rfl⟩))); (try simp only [Act.put, List.getElem_toArray, List.getElem_cons_succ, List.getElem_cons_zero, List.setIfInBounds_toArray, List.set_cons_zero, List.set_cons_succ])); (with_reducible apply qw_skip; (kernel_rfl); (try simp only [Act.put, List.getElem_toArray, List.getElem_cons_succ, List.getElem_cons_zero, List.setIfInBounds_toArray, List.set_cons_zero, List.set_cons_succ])); (with_reducible apply qw_skip; (kernel_rfl); (try simp only [Act.put, List.getElem_toArray, List.getElem_cons_succ, List.getElem_cons_zero, List.setIfInBounds_toArray, List.set_cons_zero, List.set_cons_succ])); (with_reducible apply qw_skip; (kernel_rfl); (try simp only [Act.put, List.getElem_toArray, List.getElem_cons_succ, List.getElem_cons_zero, List.setIfInBounds_toArray, List.set_cons_zero, List.set_cons_succ])); (with_reducible apply qw_skip; (kernel_rfl); (try simp only [Act.put, List.getElem_toArray, List.getElem_cons_succ, List.getElem_cons_zero, List.setIfInBounds_toArray, List.set_cons_zero, List.set_cons_succ])); (with_reducible apply qw_skip; (kernel_rfl); (try simp only [Act.put, List.getElem_toArray, List.getElem_cons_succ, List.getElem_cons_zero, List.setIfInBounds_toArray, List.set_cons_zero, List.set_cons_succ])); (with_reducible apply qw_skip; (kernel_rfl); (try simp only [Act.put, List.getElem_toArray, List.getElem_cons_succ, List.getElem_cons_zero, List.setIfInBounds_toArray, List.set_cons_zero, List.set_cons_succ])); (with_reducible apply qw_skip; (kernel_rfl); (try simp only [Act.put, List.getElem_toArray, List.getElem_cons_succ, List.getElem_cons_zero, List.setIfInBounds_toArray, List.set_cons_zero, List.set_cons_succ])); (with_reducible apply qw_skip; (kernel_rfl); (try simp only [Act.put, List.getElem_toArray, List.getElem_cons_succ, List.getElem_cons_zero, List.setIfInBounds_toArray, List.set_cons_zero, List.set_cons_succ])); (with_reducible apply qw_skip; (kernel_rfl); (try simp only [Act.put, List.getElem_toArray, List.getElem_cons_succ, List.getElem_cons_zero, List.setIfInBounds_toArray, List.set_cons_zero, List.set_cons_succ])); (with_reducible apply qw_do; (kernel_rfl); (focus (intro W hC; (obtain ⟨g0, g2⟩ := HGX.out W hC; have k5 := (Blk.via hC (by simp) G5).cell; have k8 := (Blk.via hC (by simp) G8).cell; have kX := (Blk.via hC (by simp) GX).cell); go_simp; (first | (fail) | done | rfl | exact ⟨rfl, rfl⟩))); (try simp only [Act.put, List.getElem_toArray, List.getElem_cons_succ, List.getElem_cons_zero, List.setIfInBounds_toArray, List.set_cons_zero, List.set_cons_succ])); with_reducible refine qw_nil ?_
        intro W4 F4
        have K6 := Blk.via F4 (by simp) G6
        have K7 := Blk.via F4 (by simp) G7
        have KX := Blk.via F4 (by simp) GX
        have d6 := K6.cell
        have e6 := K6.frozen
        have m6 := K6.lt
        have d7 := K7.cell
        have e7 := K7.frozen
        have m7 := K7.lt
        have dX := KX.cell
        clear c6 f6 l6 c7 f7 l7 cX c8 f8 l8
        gi_wp2
        have F5 : Fr [w.heap.size + 1, w.heap.size + 1 + 1] Wc ((W4.setCell ⟨w.heap.size + 1, 0, none⟩ (.int .i64 x.pr)).setCell ⟨w.heap.size + 1 + 1, 0, none⟩ (.bool true)) := ((F4.mono (by simp)).setIn (by simp)).setIn (by simp)
        exact ⟨keeps_fr F5 (by simp; omega), [], x.pr, ⟨rfl, HSTEP.out⟩, (G.mono (by simp)).trans (F5.mono (by simp)), ((K6.same 0 _).off (by omega)).cast rfl, ((K7.off (by omega)).same 0 _).cast rfl⟩
    · have HSTEP : Hid (∀ rest, meetL (pre ++ [x] ++ rest) fs = some x.pr) := Lib.hid fun rest => by
        rw [List.append_assoc, HP.out, List.drop_of_length_le (by omega)]; rfl
      have j1 : ¬ (pre.length : Int) < (fs.length : Int) := by omega
      gi_wp2
      refine qw_round (by kernel_rfl) (fun ⟨_, _, h⟩ => h) (by kernel_rfl) (by kernel_rfl) ?_; (with_reducible apply qw_do; (kernel_rfl); (focus (intro W hC; (have k5 := (Blk.via hC (by simp) G5).cell; have k8 := (Blk.via hC (by simp) G8).cell; have kX := (Blk.via hC (by simp) GX).cell); go_simp; (first | (fail) | done | rfl | exact ⟨rfl, rfl⟩))); (try simp only [Act.put, List.getElem_toArray, List.getElem_cons_succ, List.getElem_cons_zero, List.setIfInBounds_toArray, List.set_cons_zero, List.set_cons_succ])); (with_reducible apply qw_do; (kernel_rfl); (focus (intro W hC; (have k5 := (Blk.via hC (by simp) G5).cell; have k8 := (Blk.via hC (by simp) G8).cell; have kX := (Blk.via hC (by simp) GX).cell); go_simp; (first | (fail) | done | rfl | exact ⟨rfl, rfl⟩))); (try simp only [Act.put, List.getElem_toArray, List.getElem_cons_succ, List.getElem_cons_zero, List.setIfInBounds_toArray, List.set_cons_zero, List.set_cons_succ])); (with_reducible apply qw_do; (kernel_rfl); (focus (intro W hC; (have k5 := (Blk.via hC (by simp) G5).cell; have k8 := (Blk.via hC (by simp) G8).cell; have kX := (Blk.via hC (by simp) GX).cell); go_simp; (first | (fail) | done | rfl | exact ⟨rfl, rfl⟩))); (try simp only [Act.put, List.getElem_toArray, List.getElem_cons_succ, List.getElem_cons_zero, List.setIfInBounds_toArray, List.set_cons_zero, List.set_cons_succ])); (with_reducible apply qw_do; (kernel_rfl); (focus (intro W hC; (have k5 := (Blk.via hC (by simp) G5).cell; have k8 := (Blk.via hC (by simp) G8).cell; have kX := (Blk.via hC (by simp) GX).cell); go_simp; (first | (fail) | done | rfl | exact ⟨rfl, rfl⟩))); (try simp only [Act.put, List.getElem_toArray, List.getElem_cons_succ, List.getElem_cons_zero, List.setIfInBounds_toArray, List.set_cons_zero, List.set_cons_succ])); (with_reducible apply qw_do; (kernel_rfl); (focus (intro W hC; (have k5 := (Blk.via hC (by simp) G5).cell; have k8 := (Blk.via hC (by simp) G8).cell; have kX := (Blk.via hC (by simp) GX).cell); go_simp; (first | (fail) | done | rfl | exact ⟨rfl, rfl⟩))); (try simp only [Act.put, List.getElem_toArray, List.getElem_cons_succ, List.getElem_cons_zero, List.setIfInBounds_toArray, List.set_cons_zero, List.set_cons_succ])); (with_reducible apply qw_do; (kernel_rfl); (focus (intro W hC; (have k5 := (Blk.via hC (by simp) G5).cell; have k8 := (Blk.via hC (by simp) G8).cell; have kX := (Blk.via hC (by simp) GX).cell); go_simp; (first | (fail) | done | rfl | exact ⟨rfl, rfl⟩))); (try simp only [Act.put, List.getElem_toArray, List.getElem_cons_succ, List.getElem_cons_zero, List.setIfInBounds_toArray, List.set_cons_zero, List.set_cons_succ])); (with_reducible apply qw_skip; (kernel_rfl); (try simp only [Act.put, List.getElem_toArray, List.getElem_cons_succ, List.getElem_cons_zero, List.setIfInBounds_toArray, List.set_cons_zero, List.set_cons_succ])); (with_reducible apply qw_skip; (kernel_rfl); (try simp only [Act.put, List.getElem_toArray, List.getElem_cons_succ, List.getElem_cons_zero, List.setIfInBounds_toArray, List.set_cons_zero, List.set_cons_succ])); (with_reducible apply qw_skip; (kernel_rfl); (try simp only [Act.put, List.getElem_toArray, List.getElem_cons_succ, List.getElem_cons_zero, List.setIfInBounds_toArray, List.set_cons_zero, List.set_cons_succ])); (with_reducible apply qw_skip; (kernel_rfl); (try simp only [Act.put, List.getElem_toArray, List.getElem_cons_succ, List.getElem_cons_zero, List.setIfInBounds_toArray, List.set_cons_zero, List.set_cons_succ])); (with_reducible apply qw_skip; (kernel_rfl); (try simp only [Act.put, List.getElem_toArray, List.getElem_cons_succ, List.getElem_cons_zero, List.setIfInBounds_toArray, List.set_cons_zero, List.set_cons_succ])); (with_reducible apply qw_skip; (kernel_rfl); (try simp only [Act.put, List.getElem_toArray, List.getElem_cons_succ, List.getElem_cons_zero, List.setIfInBounds_toArray, List.set_cons_zero, List.set_cons_succ])); (with_reducible apply qw_skip; (kernel_rfl); (try simp only [Act.put, List.getElem_toArray, List.getElem_cons_succ, List.getElem_cons_zero, List.setIfInBounds_toArray, List.set_cons_zero, List.set_cons_succ])); (with_reducible apply qw_skip; (kernel_rfl); (try simp only [Act.put, List.getElem_toArray, List.getElem_cons_succ, List.getElem_cons_zero, List.setIfInBounds_toArray, List.set_cons_zero, List.set_cons_succ])); (with_reducible apply qw_skip; (kernel_rfl); (try simp only [Act.put, List.getElem_toArray, List.getElem_cons_succ, List.getElem_cons_zero, List.setIfInBounds_toArray, List.set_cons_zero, List.set_cons_succ])); (with_reducible apply qw_do; (kernel_rfl); (focus (intro W hC; (have k5 := (Blk.via hC (by simp) G5).cell; have k8 := (Blk.via hC (by simp) G8).cell; have kX := (Blk.via hC (by simp) GX).cell); go_simp; (first | (fail) | done | rfl | exact ⟨rfl, rfl⟩))); (try simp only [Act.put, List.getElem_toArray, List.getElem_cons_succ, List.getElem_cons_zero, List.setIfInBounds_toArray, List.set_cons_zero, List.set_cons_succ])); (with_reducible apply qw_do; (kernel_rfl); (focus (intro W hC; (have k5 := (Blk.via hC (by simp) G5).cell; have k8 := (Blk.via hC (by simp) G8).cell; have kX := (Blk.via hC (by simp) GX).cell); go_simp; (first | (fail) | done | rfl | exact ⟨rfl, rfl⟩))); (try simp only [Act.put, List.getElem_toArray, List.getElem_cons_succ, List.getElem_cons_zero, List.setIfInBounds_toArray, List.set_cons_zero, List.set_cons_succ])); (with_reducible apply qw_skip; (kernel_rfl); (try simp only [Act.put, List.getElem_toArray, List.getElem_cons_succ, List.getElem_cons_zero, List.setIfInBounds_toArray, List.set_cons_zero, List.set_cons_succ])); (with_reducible apply qw_skip; (kernel_rfl); (try simp only [Act.put, List.getElem_toArray, List.getElem_cons_succ, List.getElem_cons_zero, List.setIfInBounds_toArray, List.set_cons_zero, List.set_cons_succ])); (with_reducible apply qw_skip; (kernel_rfl); (try simp only [Act.put, List.getElem_toArray, List.getElem_cons_succ, List.getElem_cons_zero, List.setIfInBounds_toArray, List.set_cons_zero, List.set_cons_succ])); (with_reducible apply qw_skip; (kernel_rfl); (try simp only [Act.put, List.getElem_toArray, List.getElem_cons_succ, List.getElem_cons_zero, List.setIfInBounds_toArray, List.set_cons_zero, List.set_cons_succ])); (with_reducible apply qw_skip; (kernel_rfl); (try simp only [Act.put, List.getElem_toArray, List.getElem_cons_succ, List.getElem_cons_zero, List.setIfInBounds_toArray, List.set_cons_zero, List.set_cons_succ])); (with_reducible apply qw_skip; (kernel_rfl); (try simp only [Act.put, List.getElem_toArray, List.getElem_cons_succ, List.getElem_cons_zero, List.setIfInBounds_toArray, List.set_cons_zero, List.set_cons_succ])); (with_reducible apply qw_skip; (kernel_rfl); (try simp only [Act.put, List.getElem_toArray, List.getElem_cons_succ, List.getElem_cons_zero, List.setIfInBounds_toArray, List.set_cons_zero, List.set_cons_succ])); (with_reducible apply qw_skip; (kernel_rfl); (try simp only [Act.put, List.getElem_toArray, List.getElem_cons_succ, List.getElem_cons_zero, List.setIfInBounds_toArray, List.set_cons_zero, List.set_cons_succ])); (with_reducible apply qw_skip; (kernel_rfl); (try simp only [Act.put, List.getElem_toArray, List.getElem_cons_succ, List.getElem_cons_zero, List.setIfInBounds_toArray, List.set_cons_zero, List.set_cons_succ])); (with_reducible apply qw_do; (kernel_rfl); (focus (intro W hC; (have k5 := (Blk.via hC (by simp) G5).cell; have k8 := (Blk.via hC (by simp) G8).cell; have kX := (Blk.via hC (by simp) GX).cell); go_simp; (first | (fail) | done | rfl | exact ⟨rfl, rfl⟩))); (try simp only [Act.put, List.getElem_toArray, List.getElem_cons_succ, List.getElem_cons_zero, List.setIfInBounds_toArray, List.set_cons_zero, List.set_cons_succ])); with_reducible refine qw_nil ?_
      intro W4 F4
      have K6 := Blk.via F4 (by simp) G6
      have K7 := Blk.via F4 (by simp) G7
      have KX := Blk.via F4 (by simp) GX
      have d6 := K6.cell
      have e6 := K6.frozen
      have m6 := K6.lt
      have d7 := K7.cell
      have e7 := K7.frozen
      have m7 := K7.lt
      have dX := KX.cell
      clear c6 f6 l6 c7 f7 l7 cX c8 f8 l8
      gi_wp2
      have F5 : Fr [w.heap.size + 1, w.heap.size + 1 + 1] Wc ((W4.setCell ⟨w.heap.size + 1, 0, none⟩ (.int .i64 x.pr)).setCell ⟨w.heap.size + 1 + 1, 0, none⟩ (.bool true)) := ((F4.mono (by simp)).setIn (by simp)).setIn (by simp)
      exact ⟨keeps_fr F5 (by simp; omega), [], x.pr, ⟨rfl, HSTEP.out⟩, (G.mono (by simp)).trans (F5.mono (by simp)), ((K6.same 0 _).off (by omega)).cast rfl, ((K7.off (by omega)).same 0 _).cast rfl⟩
end Go.Proofs.Ytkimldeagndgjaa
