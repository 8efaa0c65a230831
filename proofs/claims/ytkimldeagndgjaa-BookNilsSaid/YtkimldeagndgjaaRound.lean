/- Regions that draw their order within a round of a loop over an iterator: the plain walks serve there too. No program stands in this text. -/
import Derived.Test.YtkimldeagndgjaaRange
import Derived.Test.YtkimldeagndgjaaUntil
import Derived.Deep.Quiet
namespace Go.Proofs.Ytkimldeagndgjaa
set_option linter.unusedVariables false
set_option linter.unusedSimpArgs false
open Go.RowKit Go.Shelf

def noDefer (ops : Array Oper) : Bool := ops.all fun o => match o.op with | .defer _ => false | _ => true
theorem noDefer_spec {ops : Array Oper} (h : noDefer ops = true) {i : Nat} {o : Oper} (hi : ops[i]? = some o) (c : Call) : o.op ≠ .defer c := fun e => by
  unfold noDefer at h
  rw [Array.all_eq_true_iff_forall_mem] at h
  have := h o (Array.mem_of_getElem? hi)
  rw [e] at this
  cases this

section
variable {P : Program} {ops : Array Oper} {Q : Exit → Act → World → Prop} {l n : Nat}

theorem oper_in {o : Oper} {a : Act} {w : World} {K : Act → World → Prop} (hd : ∀ c, o.op ≠ .defer c) (h : o.wp P a w K Q) : o.wpIn (Fence.wide.inRound l) n P a w K Q := by
  refine ⟨fun _ _ => trivial, ?_⟩
  have hr : (Fence.wide.inRound l).round = some l := rfl
  rw [hr, Oper.semAt_some l _ _ hd]
  unfold Oper.wp at h
  generalize (execOp a.eval o).run P w = r at h ⊢
  have hnd : (Fence.wide.inRound l).depth.isSome = true → 1 ≤ n := fun hh => by cases hh
  match r, h with
  | .ok (.value v) w', h => exact h
  | .ok .skip w', h => exact h
  | .ok (.defer d) w', h => exact h
  | .ok (.enter f args) w', h => exact ⟨hnd, CallsIn.inRound l (callsIn_wide.2 h)⟩
  | .ok (.row row args) w', h =>
    refine ⟨hnd, fun c cs _ => ?_⟩
    obtain ⟨v, w'', hv, hs⟩ := h c cs
    exact ⟨v, w'', hv, stepsIn_wide.2 hs⟩
  | .halt (.panic v) w', h => exact h

theorem op_in {i : Nat} {K K' : Act → World → Prop} {a : Act} {w : World} (hd : noDefer ops = true) (hL : ¬ LetsOut Q) (hK : ∀ a w, K a w → K' a w) (h : wpOp P ops Q i K a w) : wpOpIn (Fence.wide.inRound l) n P ops Q i K' a w := by
  unfold wpOp at h
  unfold wpOpIn
  cases ho : ops[i]? with
  | none => rw [ho] at h; exact hK _ _ h
  | some o =>
    rw [ho] at h
    dsimp only at h ⊢
    split at h
    · rename_i hw
      rw [if_pos hw]
      rcases h with h | h
      · exact oper_in (noDefer_spec hd ho) (Oper.wp_mono hK h)
      · exact absurd h.2 hL
    · rename_i hw
      rw [if_neg hw]
      exact ⟨fun _ _ => trivial, hK _ _ h⟩

theorem any_in {md : Region.Mode} (hd : noDefer ops = true) (hL : ¬ LetsOut Q) : ∀ (fuel : Nat) (listed : Array Bool) (a : Act) (w : World), wpAny P md ops Q fuel listed a w → wpAnyIn (Fence.wide.inRound l) n P md ops Q fuel listed a w
  | 0, _, _, _, h => h
  | fuel + 1, listed, a, w, h => ⟨h.1, fun i hi => op_in hd hL (fun a' w' h' => any_in hd hL fuel _ a' w' h') (h.2 i hi)⟩

/-- u_region within a round. -/
theorem u_round {id : Nat} {a : Act} {w : World} (S : World → Prop) (st : Nat) (hd : noDefer ops = true) (hL : ¬ LetsOut Q) (hm : P.follows .mixedOrders = true) (h1 : Region.noSelect ops = true) (h2 : Region.sinkB .any ops st = true) (h3 : Region.chainB .any ops st = true) (h4 : st + 1 = ops.size)
    (hS : S w.drew) (h : U P .any ops Q S st ops.size (Array.replicate ops.size false) a w.drew) : (Code.region id ops true).wpIn (Fence.wide.inRound l) n P Q a w :=
  wpIn_region_any hm (any_in hd hL _ _ _ _ (any_of_u _ _ _ _ (h ⟨h1, h2, h3, h4⟩
    ⟨by simp, fun j oj _ hl => (by rw [getD_replicate_false] at hl; cases hl), fun t _ ht => getD_in (by simpa using ht) (getD_replicate_false _ _)⟩ hS)))

/-- A quiet region within a round. -/
theorem quiet_round {C : World → Prop} {id : Nat} {a : Act} {w : World} {ol : List Oper} (hd : noDefer ol.toArray = true) (hL : ¬ LetsOut Q) (hm : P.follows .mixedOrders = true) (hB : Region.lexB .any ol.toArray = true) (hC : C w.drew)
    (h : wpQuiet P ol.toArray C (fun a' => ∀ w', C w' → Q .normal a' w') ol a) : (Code.region id ol.toArray true).wpIn (Fence.wide.inRound l) n P Q a w := by
  simp only [Region.lexB, Bool.and_eq_true] at hB
  refine wpIn_region_any hm (any_in hd hL _ _ _ _ (wpAny_of_quiet (Q := fun a' => ∀ w', C w' → Q .normal a' w') (fun _ w' hw' h => h w' hw') _ _ _ _ hC ?_))
  have := wpAnyQ_lex (C := C) (md := .any) hB.1 ol.toArray.toList 0 (Array.replicate ol.toArray.size false) a (by simp) (by simpa using hB.2) h
  simpa using this
/-- .. whose callees at most make new blocks. -/
theorem soft_round {id : Nat} {a : Act} {w : World} {ol : List Oper} (hd : noDefer ol.toArray = true) (hL : ¬ LetsOut Q) (hm : P.follows .mixedOrders = true) (hB : Region.lexB .any ol.toArray = true)
    (h : wpQuiet P ol.toArray (Fr [] w) (fun a' => ∀ w', Fr [] w w' → Q .normal a' w') ol a) : (Code.region id ol.toArray true).wpIn (Fence.wide.inRound l) n P Q a w :=
  quiet_round (C := Fr [] w) hd hL hm hB (Fr.drew (Fr.refl [] _)) h
end
end Go.Proofs.Ytkimldeagndgjaa
