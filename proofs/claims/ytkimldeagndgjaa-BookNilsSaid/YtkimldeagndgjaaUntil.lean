/- A region that draws its order and whose last operation (a store) writes what the region has read: what the region reads is held until that last operation comes up. No program stands in this text. -/
import Derived.OrdersHeld
import Derived.StillTail
import Derived.Tactics
namespace Go.Proofs.Ytkimldeagndgjaa
set_option linter.unusedVariables false
set_option linter.unusedSimpArgs false
open Go

section
variable {P : Program} {ops : Array Oper} {Q : Exit → Act → World → Prop} {md : Region.Mode} {S : World → Prop} {st : Nat}

/-- Whatever order is picked; S holds behind every operation but number st. -/
def anyU (P : Program) (md : Region.Mode) (ops : Array Oper) (Q : Exit → Act → World → Prop) (S : World → Prop) (st : Nat) : Nat → Array Bool → Act → World → Prop
  | 0, listed, a, w => Region.ready md ops listed = [] ∧ Q .normal a w
  | fuel + 1, listed, a, w =>
    (Region.ready md ops listed = [] → Q .normal a w) ∧
    ∀ i ∈ Region.ready md ops listed, wpOp P ops Q i (fun a' w' => (i ≠ st → S w') ∧ anyU P md ops Q S st fuel (listed.setIfInBounds i true) a' w') a w

theorem any_of_u : ∀ (fuel : Nat) (listed : Array Bool) (a : Act) (w : World), anyU P md ops Q S st fuel listed a w → wpAny P md ops Q fuel listed a w
  | 0, _, _, _, h => h
  | fuel + 1, _, _, _, h => ⟨h.1, fun i hi => wpOp_mono (fun a' w' h' => any_of_u fuel _ a' w' h'.2) (h.2 i hi)⟩

/-- All others wait .. : st is the last. -/
structure Last (md : Region.Mode) (ops : Array Oper) (st : Nat) : Prop where
  sel : Region.noSelect ops = true
  sink : Region.sinkB md ops st = true
  chain : Region.chainB md ops st = true
  size : st + 1 = ops.size

theorem u_first {i : Nat} {oi : Oper} {v : Value} (L : Last md ops st) (hi : ops[i]? = some oi) (his : i < st)
    (hQ : ∀ c a w, Q (.panic c) (a.put oi.dst v) w → Q (.panic c) a w) :
    ∀ (fuel : Nat) (listed : Array Bool) (a : Act) (w : World), HeadInv md ops st listed →
      (∀ j oj, ops[j]? = some oj → j ≠ i → listed.getD j true = false → (∀ e ∈ oj.after, Region.binds md e = true → e.on ≠ i) → oi.apart ops oj = true) →
      i ∈ Region.ready md ops listed → YieldsIf P ops S oi v a → S w →
      anyU P md ops Q S st fuel (listed.setIfInBounds i true) (a.put oi.dst v) w → anyU P md ops Q S st (fuel + 1) listed a w := by
  intro fuel
  induction fuel with
  | zero =>
    intro listed a w _ _ hr hy hS H
    refine ⟨fun h => (by rw [h] at hr; cases hr), fun j hj => ?_⟩
    by_cases hji : j = i
    · subst hji; exact hy.wpOp hi hS ⟨fun _ => hS, H⟩
    · have h0 := ready_mono hj hji
      rw [H.1] at h0
      cases h0
  | succ fuel ih =>
    intro listed a w inv hfree hr hy hS H
    refine ⟨fun h => (by rw [h] at hr; cases hr), fun j hj => ?_⟩
    by_cases hji : j = i
    · subst hji; exact hy.wpOp hi hS ⟨fun _ => hS, H⟩
    · have hun : listed.getD i true = false := (mem_ready.1 hr).1
      obtain ⟨hjun, oj, hoj, hall⟩ := mem_ready.1 hj
      have hjl : j < st := by
        have h1 : j < ops.size := (Array.getElem?_eq_some_iff.1 hoj).1
        have h2 := L.size
        rcases Nat.lt_or_ge j st with h3 | h3
        · exact h3
        · exact absurd hj (tail_waits L.sink L.chain (by omega) inv (st - i) i rfl his hun j h3)
      have h1 := H.2 j (ready_mono hj hji)
      have hnot : ∀ e ∈ oj.after, Region.binds md e = true → e.on ≠ i := fun e he hb heq => by
        have h1 := hall e he hb
        rw [heq, getD_both hun] at h1
        cases h1
      have h2 := wpOp_putIf hoj (hfree j oj hoj hji hjun hnot) (fun cs b => Region.noSelect_spec L.sel i oi cs b hi) (fun cs b => Region.noSelect_spec L.sel j oj cs b hoj) hQ hy h1
      have hfree' : ∀ k ok, ops[k]? = some ok → k ≠ i → (listed.setIfInBounds j true).getD k true = false →
          (∀ e ∈ ok.after, Region.binds md e = true → e.on ≠ i) → oi.apart ops ok = true := fun k ok hk hki hu hno => by
        refine hfree k ok hk hki ?_ hno
        by_cases hjk : j = k
        · subst hjk; exact hjun
        · rw [getD_set_ne true hjk] at hu; exact hu
      refine wpOp_mono (fun a' w' h3 => ⟨h3.2.1, ih (listed.setIfInBounds j true) a' w' (inv.set hj hjl) hfree' (ready_mono hr (Ne.symm hji)) h3.1 (h3.2.1 (by omega)) ?_⟩) h2
      rw [Array.setIfInBounds_comm _ _ hji]
      exact h3.2.2

/-- The state of such a walk. -/
def U (P : Program) (md : Region.Mode) (ops : Array Oper) (Q : Exit → Act → World → Prop) (S : World → Prop) (st fuel : Nat) (listed : Array Bool) (a : Act) (w : World) : Prop :=
  Last md ops st → HeadInv md ops st listed → S w → anyU P md ops Q S st fuel listed a w

theorem u_take (i : Nat) {oi : Oper} {v : Value} {fuel : Nat} {listed : Array Bool} {a : Act} {w : World} (hi : ops[i]? = some oi) (his : decide (i < st) = true)
    (hf : Region.free md ops listed i = true) (hr : (Region.ready md ops listed).contains i = true)
    (hQ : ∀ c a w, Q (.panic c) (a.put oi.dst v) w → Q (.panic c) a w) (hy : YieldsIf P ops S oi v a)
    (h : U P md ops Q S st fuel (listed.setIfInBounds i true) (a.put oi.dst v) w) : U P md ops Q S st (fuel + 1) listed a w := fun L inv hS => by
  have hr' : i ∈ Region.ready md ops listed := by simpa using hr
  have his' : i < st := by simpa using his
  exact u_first L hi his' hQ fuel listed a w inv (Region.free_spec hi hf) hr' hy hS (h L (inv.set hr' his') hS)

theorem u_step (i : Nat) {oi : Oper} {fuel : Nat} {listed : Array Bool} {a : Act} {w : World} (hi : ops[i]? = some oi) (his : decide (i < st) = true) (hr : (Region.ready md ops listed).contains i = true)
    (h : ∀ K : Act → World → Prop, (∀ a' w', S w' → U P md ops Q S st fuel (listed.setIfInBounds i true) a' w' → K a' w') →
      if Region.wanted oi (yielded ops a.tmps) = true then Oper.wp P oi a w K Q else K (a.put oi.dst undef) w) (L : Last md ops st) (inv : HeadInv md ops st listed) :
    wpOp P ops Q i (fun a' w' => (i ≠ st → S w') ∧ anyU P md ops Q S st fuel (listed.setIfInBounds i true) a' w') a w := by
  have hr' : i ∈ Region.ready md ops listed := by simpa using hr
  have his' : i < st := by simpa using his
  unfold wpOp
  simp only [hi]
  have h1 := h (fun a' w' => (i ≠ st → S w') ∧ anyU P md ops Q S st fuel (listed.setIfInBounds i true) a' w') (fun a' w' h1 h2 => ⟨fun _ => h1, h2 L (inv.set hr' his') h1⟩)
  split
  · rename_i hw; rw [if_pos hw] at h1; exact .inl h1
  · rename_i hw; rw [if_neg hw] at h1; exact h1

/-- One alone may come up. -/
theorem u_one (i : Nat) {oi : Oper} {fuel : Nat} {listed : Array Bool} {a : Act} {w : World} (hr : Region.ready md ops listed = [i]) (hi : ops[i]? = some oi) (his : decide (i < st) = true)
    (h : ∀ K : Act → World → Prop, (∀ a' w', S w' → U P md ops Q S st fuel (listed.setIfInBounds i true) a' w' → K a' w') →
      if Region.wanted oi (yielded ops a.tmps) = true then Oper.wp P oi a w K Q else K (a.put oi.dst undef) w) : U P md ops Q S st (fuel + 1) listed a w := fun L inv hS => by
  refine ⟨fun h0 => (by rw [hr] at h0; cases h0), fun j hj => ?_⟩
  rw [hr] at hj
  obtain rfl : j = i := by simpa using hj
  exact u_step j hi his (by rw [hr]; simp) h L inv

/-- One of two. -/
theorem u_two (i k : Nat) {oi ok : Oper} {fuel : Nat} {listed : Array Bool} {a : Act} {w : World} (hr : Region.ready md ops listed = [i, k]) (hi : ops[i]? = some oi) (his : decide (i < st) = true) (hk : ops[k]? = some ok) (hks : decide (k < st) = true)
    (h : ∀ K : Act → World → Prop, (∀ a' w', S w' → U P md ops Q S st fuel (listed.setIfInBounds i true) a' w' → K a' w') →
      if Region.wanted oi (yielded ops a.tmps) = true then Oper.wp P oi a w K Q else K (a.put oi.dst undef) w)
    (h2 : ∀ K : Act → World → Prop, (∀ a' w', S w' → U P md ops Q S st fuel (listed.setIfInBounds k true) a' w' → K a' w') →
      if Region.wanted ok (yielded ops a.tmps) = true then Oper.wp P ok a w K Q else K (a.put ok.dst undef) w) : U P md ops Q S st (fuel + 1) listed a w := fun L inv hS => by
  refine ⟨fun h0 => (by rw [hr] at h0; cases h0), fun j hj => ?_⟩
  rw [hr] at hj
  rcases (show j = i ∨ j = k by simpa using hj) with rfl | rfl
  · exact u_step j hi his (by rw [hr]; simp) h L inv
  · exact u_step j hk hks (by rw [hr]; simp) h2 L inv

/-- The last one. -/
theorem u_last {o : Oper} {fuel : Nat} {listed : Array Bool} {a : Act} {w : World} (hr : Region.ready md ops listed = [st]) (ho : ops[st]? = some o) (he : Region.ready md ops (listed.setIfInBounds st true) = [])
    (h : wpList P ops Q [o] a w) : U P md ops Q S st (fuel + 1) listed a w := fun L inv hS => by
  refine ⟨fun h0 => (by rw [hr] at h0; cases h0), fun j hj => ?_⟩
  rw [hr] at hj
  obtain rfl : j = st := by simpa using hj
  have hw : wpOp P ops Q j (wpList P ops Q []) a w := by unfold wpOp; simp only [ho]; exact h
  refine wpOp_mono (fun a' w' h' => ⟨fun hn => absurd rfl hn, ?_⟩) hw
  cases fuel with
  | zero => exact ⟨he, h'⟩
  | succ fuel => exact ⟨fun _ => h', by rw [he]; simp⟩

/-- The beginning. -/
theorem u_region {id : Nat} {a : Act} {w : World} (S : World → Prop) (st : Nat) (hm : P.follows .mixedOrders = true) (h1 : Region.noSelect ops = true) (h2 : Region.sinkB .any ops st = true) (h3 : Region.chainB .any ops st = true) (h4 : st + 1 = ops.size)
    (hS : S w.drew) (h : U P .any ops Q S st ops.size (Array.replicate ops.size false) a w.drew) : (Code.region id ops true).wp P Q a w :=
  wp_region_any hm (any_of_u _ _ _ _ (h ⟨h1, h2, h3, h4⟩
    ⟨by simp, fun j oj _ hl => (by rw [getD_replicate_false] at hl; cases hl), fun t _ ht => getD_in (by simpa using ht) (getD_replicate_false _ _)⟩ hS))
end
end Go.Proofs.Ytkimldeagndgjaa
