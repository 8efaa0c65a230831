/- A region that draws its order and whose one storing operation st is not the last: what the region reads is held until st is listed. No program stands in this text. -/
import Derived.Test.YtgddmkgmpibpgaaUntil
namespace Go.Proofs.Ytgddmkgmpibpgaa
set_option linter.unusedVariables false
set_option linter.unusedSimpArgs false
open Go

section
variable {P : Program} {ops : Array Oper} {Q : Exit → Act → World → Prop} {md : Region.Mode} {S : World → Prop} {st : Nat}

/-- st waits for i. -/
def waitsB (md : Region.Mode) (ops : Array Oper) (i : Nat) : Nat → Nat → Bool
  | 0, _ => false
  | n + 1, k => match ops[k]? with
    | none => false
    | some o => o.after.any fun e => Region.binds md e && (e.on == i || waitsB md ops i n e.on)

def Closed (md : Region.Mode) (ops : Array Oper) (listed : Array Bool) : Prop :=
  ∀ j oj, ops[j]? = some oj → listed.getD j false = true → ∀ e ∈ oj.after, Region.binds md e = true → listed.getD e.on false = true
theorem Closed.set {listed : Array Bool} {j : Nat} (h : Closed md ops listed) (hj : j ∈ Region.ready md ops listed) : Closed md ops (listed.setIfInBounds j true) := by
  intro k ok hk hl e he hb
  by_cases c : k = j
  · subst c
    obtain ⟨_, o, ho, hall⟩ := mem_ready.1 hj
    rw [hk] at ho
    cases ho
    exact getD_set_true (hall e he hb)
  · rw [getD_set_ne false (Ne.symm c)] at hl
    exact getD_set_true (h k ok hk hl e he hb)
theorem waits_un {listed : Array Bool} {i : Nat} (h : Closed md ops listed) (hi : listed.getD i false = false) : ∀ (n k : Nat), waitsB md ops i n k = true → listed.getD k false = false ∧ k ∉ Region.ready md ops listed
  | 0, _, hw => by cases hw
  | n + 1, k, hw => by
    unfold waitsB at hw
    cases ho : ops[k]? with
    | none => rw [ho] at hw; cases hw
    | some o =>
      rw [ho] at hw
      obtain ⟨e, he, hb⟩ := Array.any_eq_true'.1 hw
      simp only [Bool.and_eq_true, Bool.or_eq_true, beq_iff_eq] at hb
      have hun : listed.getD e.on false = false := by
        rcases hb.2 with h1 | h1
        · rw [h1]; exact hi
        · exact (waits_un h hi n _ h1).1
      constructor
      · cases hl : listed.getD k false
        · rfl
        · have := h k o ho hl e he hb.1
          rw [hun] at this; cases this
      · intro hr
        obtain ⟨_, o', ho', hall⟩ := mem_ready.1 hr
        rw [ho] at ho'; cases ho'
        have := hall e he hb.1
        rw [hun] at this; cases this

/-- Whatever order is picked; S holds until st is listed. -/
def anyW (P : Program) (md : Region.Mode) (ops : Array Oper) (Q : Exit → Act → World → Prop) (S : World → Prop) (st : Nat) : Nat → Array Bool → Act → World → Prop
  | 0, listed, a, w => Region.ready md ops listed = [] ∧ Q .normal a w
  | fuel + 1, listed, a, w =>
    (Region.ready md ops listed = [] → Q .normal a w) ∧
    ∀ i ∈ Region.ready md ops listed, wpOp P ops Q i (fun a' w' => ((listed.setIfInBounds i true).getD st true = false → S w') ∧ anyW P md ops Q S st fuel (listed.setIfInBounds i true) a' w') a w
theorem any_of_w : ∀ (fuel : Nat) (listed : Array Bool) (a : Act) (w : World), anyW P md ops Q S st fuel listed a w → wpAny P md ops Q fuel listed a w
  | 0, _, _, _, h => h
  | fuel + 1, _, _, _, h => ⟨h.1, fun i hi => wpOp_mono (fun a' w' h' => any_of_w fuel _ a' w' h'.2) (h.2 i hi)⟩

/-- What is taken first: st waits for it, or it yields in whatever world. -/
def Early (P : Program) (md : Region.Mode) (ops : Array Oper) (S : World → Prop) (st i : Nat) (oi : Oper) (v : Value) (a : Act) : Prop :=
  (waitsB md ops i ops.size st = true ∧ YieldsIf P ops S oi v a) ∨ YieldsIf P ops (fun _ => True) oi v a

theorem w_first {i : Nat} {oi : Oper} {v : Value} (hsel : Region.noSelect ops = true) (hst : st < ops.size) (hsti : st ≠ i) (hi : ops[i]? = some oi)
    (hQ : ∀ c a w, Q (.panic c) (a.put oi.dst v) w → Q (.panic c) a w) :
    ∀ (fuel : Nat) (listed : Array Bool) (a : Act) (w : World), Closed md ops listed → listed.size = ops.size →
      (∀ j oj, ops[j]? = some oj → j ≠ i → listed.getD j true = false → (∀ e ∈ oj.after, Region.binds md e = true → e.on ≠ i) → oi.apart ops oj = true) →
      i ∈ Region.ready md ops listed → Early P md ops S st i oi v a → (listed.getD st true = false → S w) →
      anyW P md ops Q S st fuel (listed.setIfInBounds i true) (a.put oi.dst v) w → anyW P md ops Q S st (fuel + 1) listed a w := by
  have now : ∀ {listed : Array Bool} {a : Act} {w : World} {K : Act → World → Prop}, Closed md ops listed → listed.size = ops.size → i ∈ Region.ready md ops listed → Early P md ops S st i oi v a → (listed.getD st true = false → S w) → K (a.put oi.dst v) w → wpOp P ops Q i K a w := by
    intro listed a w K hc hs hr hy hS hK
    rcases hy with ⟨hw, hy⟩ | hy
    · have hun := (waits_un hc (getD_both (mem_ready.1 hr).1) _ _ hw).1
      exact hy.wpOp hi (hS (getD_in (by omega) hun)) hK
    · exact hy.wpOp hi trivial hK
  intro fuel
  induction fuel with
  | zero =>
    intro listed a w hc hs _ hr hy hS H
    refine ⟨fun h => (by rw [h] at hr; cases hr), fun j hj => ?_⟩
    by_cases hji : j = i
    · subst hji
      refine now hc hs hr hy hS ⟨fun h => hS ?_, H⟩
      by_cases c : j = st
      · subst c; exact (mem_ready.1 hr).1
      · rwa [getD_set_ne true c] at h
    · have h0 := ready_mono hj hji
      rw [H.1] at h0
      cases h0
  | succ fuel ih =>
    intro listed a w hc hs hfree hr hy hS H
    refine ⟨fun h => (by rw [h] at hr; cases hr), fun j hj => ?_⟩
    by_cases hji : j = i
    · subst hji
      refine now hc hs hr hy hS ⟨fun h => hS ?_, H⟩
      by_cases c : j = st
      · subst c; exact (mem_ready.1 hr).1
      · rwa [getD_set_ne true c] at h
    · have hun : listed.getD i true = false := (mem_ready.1 hr).1
      obtain ⟨hjun, oj, hoj, hall⟩ := mem_ready.1 hj
      have h1 := H.2 j (ready_mono hj hji)
      have hnot : ∀ e ∈ oj.after, Region.binds md e = true → e.on ≠ i := fun e he hb heq => by
        have h1 := hall e he hb
        rw [heq, getD_both hun] at h1
        cases h1
      have hfree' : ∀ k ok, ops[k]? = some ok → k ≠ i → (listed.setIfInBounds j true).getD k true = false →
          (∀ e ∈ ok.after, Region.binds md e = true → e.on ≠ i) → oi.apart ops ok = true := fun k ok hk hki hu hno => by
        refine hfree k ok hk hki ?_ hno
        by_cases hjk : j = k
        · subst hjk; exact hjun
        · rw [getD_set_ne true hjk] at hu; exact hu
      have hcomm : (listed.setIfInBounds j true).setIfInBounds i true = (listed.setIfInBounds i true).setIfInBounds j true := Array.setIfInBounds_comm _ _ hji
      have tailS : ∀ w' : World, (((listed.setIfInBounds i true).setIfInBounds j true).getD st true = false → S w') → ((listed.setIfInBounds j true).getD st true = false → waitsB md ops i ops.size st = true ∨ True → S w' ∨ st = i) := fun w' hw' h _ => by
        by_cases c : st = i
        · exact .inr c
        · rw [← hcomm, getD_set_ne true (Ne.symm c)] at hw'
          exact .inl (hw' h)
      rcases hy with ⟨hw, hy⟩ | hy
      · refine wpOp_mono (fun a' w' h3 => ⟨fun h => ?_, ih (listed.setIfInBounds j true) a' w' (hc.set hj) (by simpa using hs) hfree' (ready_mono hr (Ne.symm hji)) (.inl ⟨hw, h3.1⟩) (fun h => ?_) ?_⟩) (wpOp_putIf hoj (hfree j oj hoj hji hjun hnot) (fun cs b => Region.noSelect_spec hsel i oi cs b hi) (fun cs b => Region.noSelect_spec hsel j oj cs b hoj) hQ hy h1)
        · exact (tailS w' h3.2.1 h (.inl hw)).resolve_right hsti
        · exact (tailS w' h3.2.1 h (.inl hw)).resolve_right hsti
        · rw [hcomm]; exact h3.2.2
      · refine wpOp_mono (fun a' w' h3 => ⟨fun h => ?_, ih (listed.setIfInBounds j true) a' w' (hc.set hj) (by simpa using hs) hfree' (ready_mono hr (Ne.symm hji)) (.inr h3.1) (fun h => ?_) ?_⟩) (wpOp_putIf hoj (hfree j oj hoj hji hjun hnot) (fun cs b => Region.noSelect_spec hsel i oi cs b hi) (fun cs b => Region.noSelect_spec hsel j oj cs b hoj) hQ hy h1)
        · exact (tailS w' h3.2.1 h (.inr trivial)).resolve_right hsti
        · exact (tailS w' h3.2.1 h (.inr trivial)).resolve_right hsti
        · rw [hcomm]; exact h3.2.2

/-- The state of such a walk. -/
def Wd (P : Program) (md : Region.Mode) (ops : Array Oper) (Q : Exit → Act → World → Prop) (S : World → Prop) (st fuel : Nat) (listed : Array Bool) (a : Act) (w : World) : Prop :=
  Region.noSelect ops = true → st < ops.size → Closed md ops listed → listed.size = ops.size → (listed.getD st true = false → S w) → anyW P md ops Q S st fuel listed a w

theorem getD_grow {listed : Array Bool} {i k : Nat} (h : (listed.setIfInBounds i true).getD k true = false) : listed.getD k true = false := by
  by_cases c : i = k
  · subst c
    rw [Array.getD_eq_getD_getElem?, Array.getElem?_setIfInBounds] at h
    split at h
    · split at h <;> simp at h
    · exact absurd rfl ‹_›
  · rwa [getD_set_ne true c] at h

theorem w_take (i : Nat) {oi : Oper} {v : Value} {fuel : Nat} {listed : Array Bool} {a : Act} {w : World} (hi : ops[i]? = some oi) (his : decide (st ≠ i) = true) (hw : waitsB md ops i ops.size st = true)
    (hf : Region.free md ops listed i = true) (hr : (Region.ready md ops listed).contains i = true)
    (hQ : ∀ c a w, Q (.panic c) (a.put oi.dst v) w → Q (.panic c) a w) (hy : YieldsIf P ops S oi v a)
    (h : Wd P md ops Q S st fuel (listed.setIfInBounds i true) (a.put oi.dst v) w) : Wd P md ops Q S st (fuel + 1) listed a w := fun h1 h2 hc hs hS => by
  have hr' : i ∈ Region.ready md ops listed := by simpa using hr
  exact w_first h1 h2 (by simpa using his) hi hQ fuel listed a w hc hs (Region.free_spec hi hf) hr' (.inl ⟨hw, hy⟩) hS (h h1 h2 (hc.set hr') (by simpa using hs) (fun e => hS (getD_grow e)))
theorem w_takeT (i : Nat) {oi : Oper} {v : Value} {fuel : Nat} {listed : Array Bool} {a : Act} {w : World} (hi : ops[i]? = some oi) (his : decide (st ≠ i) = true)
    (hf : Region.free md ops listed i = true) (hr : (Region.ready md ops listed).contains i = true)
    (hQ : ∀ c a w, Q (.panic c) (a.put oi.dst v) w → Q (.panic c) a w) (hy : YieldsIf P ops (fun _ => True) oi v a)
    (h : Wd P md ops Q S st fuel (listed.setIfInBounds i true) (a.put oi.dst v) w) : Wd P md ops Q S st (fuel + 1) listed a w := fun h1 h2 hc hs hS => by
  have hr' : i ∈ Region.ready md ops listed := by simpa using hr
  exact w_first h1 h2 (by simpa using his) hi hQ fuel listed a w hc hs (Region.free_spec hi hf) hr' (.inr hy) hS (h h1 h2 (hc.set hr') (by simpa using hs) (fun e => hS (getD_grow e)))
/-- One alone may come up, ahead of st. -/
theorem w_one (i : Nat) {oi : Oper} {fuel : Nat} {listed : Array Bool} {a : Act} {w : World} (hr : Region.ready md ops listed = [i]) (hi : ops[i]? = some oi)
    (h : ∀ K : Act → World → Prop, (∀ a' w', S w' → Wd P md ops Q S st fuel (listed.setIfInBounds i true) a' w' → K a' w') →
      if Region.wanted oi (yielded ops a.tmps) = true then Oper.wp P oi a w K Q else K (a.put oi.dst undef) w) : Wd P md ops Q S st (fuel + 1) listed a w := fun h1 h2 hc hs hS => by
  refine ⟨fun h0 => (by rw [hr] at h0; cases h0), fun j hj => ?_⟩
  have hj0 := hj
  rw [hr] at hj
  obtain rfl : j = i := by simpa using hj
  unfold wpOp
  simp only [hi]
  have h3 := h (fun a' w' => ((listed.setIfInBounds j true).getD st true = false → S w') ∧ anyW P md ops Q S st fuel (listed.setIfInBounds j true) a' w') (fun a' w' hS' hW => ⟨fun _ => hS', hW h1 h2 (hc.set hj0) (by simpa using hs) (fun _ => hS')⟩)
  split
  · rename_i hw; rw [if_pos hw] at h3; exact .inl h3
  · rename_i hw; rw [if_neg hw] at h3; exact h3
/-- The storing one. -/
theorem w_store {o : Oper} {fuel : Nat} {listed : Array Bool} {a : Act} {w : World} (hr : Region.ready md ops listed = [st]) (hi : ops[st]? = some o) (hlt : (listed.setIfInBounds st true).getD st true = true)
    (h : ∀ K : Act → World → Prop, (∀ a' w', Wd P md ops Q S st fuel (listed.setIfInBounds st true) a' w' → K a' w') →
      if Region.wanted o (yielded ops a.tmps) = true then Oper.wp P o a w K Q else K (a.put o.dst undef) w) : Wd P md ops Q S st (fuel + 1) listed a w := fun h1 h2 hc hs hS => by
  refine ⟨fun h0 => (by rw [hr] at h0; cases h0), fun j hj => ?_⟩
  have hj0 := hj
  rw [hr] at hj
  obtain rfl : j = st := by simpa using hj
  unfold wpOp
  simp only [hi]
  have h3 := h (fun a' w' => ((listed.setIfInBounds j true).getD j true = false → S w') ∧ anyW P md ops Q S j fuel (listed.setIfInBounds j true) a' w') (fun a' w' hW => ⟨fun e => by rw [hlt] at e; (cases e), hW h1 h2 (hc.set hj0) (by simpa using hs) (fun e => by rw [hlt] at e; (cases e))⟩)
  split
  · rename_i hw; rw [if_pos hw] at h3; exact .inl h3
  · rename_i hw; rw [if_neg hw] at h3; exact h3
/-- None is left. -/
theorem w_done {fuel : Nat} {listed : Array Bool} {a : Act} {w : World} (hr : Region.ready md ops listed = []) (h : Q .normal a w) : Wd P md ops Q S st fuel listed a w := fun _ _ _ _ _ => by
  cases fuel with
  | zero => exact ⟨hr, h⟩
  | succ fuel => exact ⟨fun _ => h, by rw [hr]; simp⟩
/-- The beginning. -/
theorem w_region {id : Nat} {a : Act} {w : World} (S : World → Prop) (st : Nat) (hm : P.follows .mixedOrders = true) (h1 : Region.noSelect ops = true) (h2 : decide (st < ops.size) = true)
    (hS : S w.drew) (h : Wd P .any ops Q S st ops.size (Array.replicate ops.size false) a w.drew) : (Code.region id ops true).wp P Q a w :=
  wp_region_any hm (any_of_w (S := S) (st := st) _ _ _ _ (h h1 (by simpa using h2) (fun j oj _ hl => (by rw [getD_replicate_false] at hl; cases hl)) (by simp) (fun _ => hS)))
end
end Go.Proofs.Ytgddmkgmpibpgaa
