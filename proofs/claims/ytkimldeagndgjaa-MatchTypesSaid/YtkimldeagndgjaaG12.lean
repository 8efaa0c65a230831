/- Words and contracts: PlanA PlanB Enter LawM. -/
import Derived.Outline
import Derived.Test.YtkimldeagndgjaaG5
import Derived.Test.YtkimldeagndgjaaG7
import Derived.Test.YtkimldeagndgjaaG9
import Derived.Test.YtkimldeagndgjaaG11
/- What a plan does to a book: plain facts. -/
namespace Go.Proofs.Ytkimldeagndgjaa
set_option linter.unusedVariables false
set_option linter.unusedSimpArgs false
open Go.RowKit

theorem GoodL.rmv {N : Nat} {L : List Ord} (h : GoodL N L) (id : Int) : GoodL N (rmv id L) := by
  have hs : (Proofs.Ytkimldeagndgjaa.rmv id L).Sublist L := List.filter_sublist
  exact ⟨fun x hx => h.good x (hs.subset hx), (hs.map _).nodup h.nd, by have := hs.length_le; have := h.len; omega, h.N2⟩
theorem GoodL.red {N : Nat} {L : List Ord} (h : GoodL N L) (id y : Int) (hy : ∀ x ∈ L, x.id = id → 1 ≤ x.qt - y ∧ x.qt - y ≤ 4294967296) : GoodL N (red id y L) := by
  refine ⟨fun x hx => ?_, ?_, by have := h.len; unfold Proofs.Ytkimldeagndgjaa.red; simpa using this, h.N2⟩
  · unfold Proofs.Ytkimldeagndgjaa.red at hx
    obtain ⟨z, hz, rfl⟩ := List.mem_map.1 hx
    have g := h.good z hz
    split
    · rename_i e; exact ⟨g.sd, g.pr, hy z hz e⟩
    · exact g
  · have : (Proofs.Ytkimldeagndgjaa.red id y L).map (·.id) = L.map (·.id) := by
      unfold Proofs.Ytkimldeagndgjaa.red
      rw [List.map_map]
      exact List.map_congr_left fun x _ => by simp only [Function.comp]; split <;> rfl
    rw [this]; exact h.nd
theorem red_of {s id y : Int} {L Y : List Ord} (h : OfL s L Y) : OfL s (red id y L) (red id y Y) := by
  have hf : ∀ (Z : List Ord) (q : Ord → Bool), (∀ x z : Ord, x.pr = z.pr → x.sd = z.sd → q x = q z) → (red id y Z).filter q = red id y (Z.filter q) := by
    intro Z q hq
    induction Z with
    | nil => rfl
    | cons a r ih =>
      unfold red at ih ⊢
      rw [List.map_cons, List.filter_cons, List.filter_cons]
      have e : q (if a.id = id then { a with qt := a.qt - y } else a) = q a := by split <;> exact hq _ _ rfl rfl
      rw [e]
      split
      · rw [ih]; simp
      · exact ih
  refine ⟨?_, fun p => ?_⟩
  · unfold red
    rw [List.pairwise_map]
    refine h.1.imp fun {a b} hab => ?_
    have e : ∀ a : Ord, (if a.id = id then ({ a with qt := a.qt - y } : Ord) else a).pr = a.pr := fun a => by split <;> rfl
    rw [e, e]; exact hab
  · rw [hf _ _ (fun x z e1 _ => by rw [e1]), hf _ _ (fun x z e1 e2 => by rw [e1, e2]), h.2 p]
theorem mkL_acc (t : Tak) : ∀ (Y : List Ord) (fs : List Fil) (left : Int), mkL t Y fs left = (fs ++ (mkL t Y [] left).1, (mkL t Y [] left).2)
  | [], fs, left => by simp [mkL]
  | o :: r, fs, left => by
    rw [mkL, mkL]
    split
    · simp
    · split
      · simp
      · split
        · simp
        · split
          · rw [mkL_acc t r (fs ++ _), mkL_acc t r ([] ++ _)]; simp
          · split
            · simp
            · split
              · simp
              · rw [mkL_acc t r (fs ++ _), mkL_acc t r ([] ++ _)]; simp

/-- What a plan makes of a book. -/
structure Planned (N : Nat) (t : Tak) (L Y : List Ord) (left : Int) (r : List Fil × Int × Int) (L' Y' : List Ord) : Prop where
  ap : apL r.1 L = (0, L')
  good : GoodL N L'
  of : OfL (1 - t.sd) L' Y'
  own : L'.filter (fun x => decide (x.sd = t.sd)) = L.filter (fun x => decide (x.sd = t.sd))
  sub : ∀ x ∈ L', ∃ y ∈ L, y.id = x.id ∧ y.sd = x.sd ∧ y.pr = x.pr
  len : L'.length ≤ L.length
  left0 : 0 ≤ r.2.1
  all : trS r.1 + r.2.1 = left
  fill : ∀ f ∈ r.1, 1 ≤ f.qt ∧ f.qt ≤ 4294967296 ∧ t.lo ≤ f.pr ∧ f.pr ≤ t.hi ∧ worseB t.sd f.pr t.lim = false
  meet : meetL Y r.1 = Y'.head?.map (·.pr)

theorem Planned.none {N : Nat} {t : Tak} {L Y : List Ord} {left stop : Int} (h : GoodL N L) (hY : OfL (1 - t.sd) L Y) (hl : 0 ≤ left) : Planned N t L Y left ([], left, stop) L Y :=
  ⟨rfl, h, hY, rfl, fun x hx => ⟨x, hx, rfl, rfl, rfl⟩, Nat.le_refl _, hl, by simp [trS], by simp, by cases Y <;> rfl⟩
theorem find_of {N : Nat} {L : List Ord} (h : GoodL N L) {o : Ord} (ho : o ∈ L) : L.find? (fun x => decide (x.id = o.id)) = some o := by
  cases hf : L.find? (fun x => decide (x.id = o.id)) with
  | none => exact absurd rfl (find_none hf o ho)
  | some x => obtain ⟨h1, h2⟩ := find_some hf; rw [h.eq_of_id h1 ho h2]
theorem trS_cons (f : Fil) (l : List Fil) : trS (f :: l) = (if f.gn then 0 else f.qt) + trS l := by
  unfold trS
  cases h : f.gn <;> simp [h]
/-- An order is taken whole, and the rest goes on. -/
theorem Planned.whole {N : Nat} {t : Tak} {L r : List Ord} {o : Ord} {left : Int} {gn : Bool} {res : List Fil × Int × Int} {L' Y' : List Ord} (h : GoodL N L) (hY : OfL (1 - t.sd) L (o :: r)) (hs : t.sd = 0 ∨ t.sd = 1)
    (hf : t.lo ≤ o.pr ∧ o.pr ≤ t.hi ∧ worseB t.sd o.pr t.lim = false) (k : Planned N t (rmv o.id L) r (if gn then left else left - o.qt) res L' Y') : Planned N t L (o :: r) left (⟨o.id, o.pr, o.qt, gn⟩ :: res.1, res.2) L' Y' := by
  have ho := (hY.mem.1 (List.mem_cons_self ..))
  have g := h.good o ho.1
  have hfi := find_of h ho.1
  have ha : apF L ⟨o.id, o.pr, o.qt, gn⟩ = (0, rmv o.id L) := by
    unfold apF
    simp only [hfi]
    cases gn
    · have := g.qt
      rw [if_neg (by simp), if_neg (by omega)]; simp
    · rw [if_pos rfl]
  refine ⟨?_, k.good, k.of, ?_, fun x hx => ?_, ?_, k.left0, ?_, ?_, ?_⟩
  · simp only [apL, ha, if_true]; exact k.ap
  · rw [k.own]
    unfold rmv
    rw [List.filter_filter]
    refine List.filter_congr fun x hx => ?_
    by_cases e : x.sd = t.sd
    · have : x.id ≠ o.id := fun e2 => by
        have := h.eq_of_id hx ho.1 e2
        subst this
        have := ho.2
        omega
      simp [e, this]
    · simp [e]
  · obtain ⟨y, hy, h1⟩ := k.sub x hx
    exact ⟨y, (List.mem_filter.1 hy).1, h1⟩
  · have := k.len
    have : (rmv o.id L).length ≤ L.length := List.length_filter_le _ _
    omega
  · have := k.all
    simp only [trS_cons]
    cases gn <;> simp at this ⊢ <;> omega
  · intro f hf2
    rcases List.mem_cons.1 hf2 with rfl | h2
    · exact ⟨g.qt.1, g.qt.2, hf.1, hf.2.1, hf.2.2⟩
    · exact k.fill f h2
  · rw [meetL, if_pos ⟨rfl, rfl⟩]; exact k.meet
theorem mk_plan {N : Nat} (t : Tak) (hs : t.sd = 0 ∨ t.sd = 1) : ∀ (Y L : List Ord) (left : Int), GoodL N L → OfL (1 - t.sd) L Y → 0 ≤ left → ∃ L' Y', Planned N t L Y left (mkL t Y [] left) L' Y'
  | [], L, left, h, hY, hl => by rw [mkL]; exact ⟨L, [], Planned.none h hY hl⟩
  | o :: r, L, left, h, hY, hl => by
    have ho := (hY.mem.1 (List.mem_cons_self ..))
    have g := h.good o ho.1
    have hfi := find_of h ho.1
    have hr := rmv_head' h hY
    rw [mkL]
    split
    · rename_i e; subst e; exact ⟨L, _, Planned.none h hY (by omega)⟩
    rename_i c0
    split
    · exact ⟨L, _, Planned.none h hY hl⟩
    rename_i c1
    have c1' : worseB t.sd o.pr t.lim = false := by simpa using c1
    split
    · exact ⟨L, _, Planned.none h hY hl⟩
    rename_i c2
    have c2' : t.lo ≤ o.pr ∧ o.pr ≤ t.hi := by rcases Classical.em (t.lo ≤ o.pr ∧ o.pr ≤ t.hi) with h | h; exact h; exact absurd h c2
    split
    · rw [mkL_acc]
      by_cases c3 : left < o.qt
      · rw [show min left o.qt = left by omega, show left - left = 0 by omega]
        have e0 : mkL t r [] 0 = ([], 0, 0) := by cases r <;> simp [mkL]
        rw [e0]
        have hap : apF L ⟨o.id, o.pr, left, false⟩ = (0, red o.id left L) := by
          unfold apF
          simp only [hfi]
          rw [if_neg (by simp), if_neg (by omega), if_neg (by omega)]
        have hred : red o.id left (o :: r) = { o with qt := o.qt - left } :: r := by
          unfold red
          rw [List.map_cons, if_pos rfl]
          congr 1
          refine (List.map_congr_left (g := id) fun x hx => ?_).trans (List.map_id _)
          rw [if_neg]
          · rfl
          · intro e
            have h1 := (hr.1.mem.1 hx).1
            exact absurd e (by simpa using (List.mem_filter.1 h1).2)
        have hof := red_of (id := o.id) (y := left) hY
        rw [hred] at hof
        refine ⟨red o.id left L, { o with qt := o.qt - left } :: r, ?_, ?_, hof, ?_, ?_, ?_, by simp, ?_, ?_, ?_⟩
        · simp only [List.nil_append, List.append_nil, apL, hap, if_true]
        · refine h.red _ _ fun x hx e => ?_
          have := h.eq_of_id hx ho.1 e
          subst this
          have := g.qt
          omega
        · unfold red
          rw [List.filter_map]
          have e1 : ((fun x : Ord => decide (x.sd = t.sd)) ∘ fun x : Ord => if x.id = o.id then ({ x with qt := x.qt - left } : Ord) else x) = fun x => decide (x.sd = t.sd) := by
            funext x
            simp only [Function.comp]
            split <;> rfl
          rw [e1]
          refine (List.map_congr_left (g := id) fun x hx => ?_).trans (List.map_id _)
          rw [if_neg]
          · rfl
          · intro e
            obtain ⟨h1, h2⟩ := List.mem_filter.1 hx
            have := h.eq_of_id h1 ho.1 e
            subst this
            have := ho.2
            have := of_decide_eq_true h2
            omega
        · intro x hx
          unfold red at hx
          obtain ⟨y, hy, rfl⟩ := List.mem_map.1 hx
          refine ⟨y, hy, ?_⟩
          split <;> exact ⟨rfl, rfl, rfl⟩
        · unfold red; simp
        · simp [trS]
        · intro f hf
          obtain rfl : f = ⟨o.id, o.pr, left, false⟩ := by simpa using hf
          have := g.qt
          exact ⟨by simp only; omega, by simp only; omega, c2'.1, c2'.2, c1'⟩
        · simp only [List.nil_append, List.append_nil]
          rw [meetL, if_neg (by simp only; omega)]; rfl
      · rw [show min left o.qt = o.qt by omega]
        obtain ⟨L', Y', k⟩ := mk_plan t hs r (rmv o.id L) (left - o.qt) (h.rmv _) hr.1 (by omega)
        exact ⟨L', Y', Planned.whole (gn := false) h hY hs ⟨c2'.1, c2'.2, c1'⟩ k⟩
    · split
      · exact ⟨L, _, Planned.none h hY hl⟩
      · split
        · exact ⟨_, _, Planned.whole (gn := true) (res := ([], left, 3)) h hY hs ⟨c2'.1, c2'.2, c1'⟩ (Planned.none (h.rmv _) hr.1 (by simpa using hl))⟩
        · rw [mkL_acc]
          obtain ⟨L', Y', k⟩ := mk_plan t hs r (rmv o.id L) left (h.rmv _) hr.1 hl
          exact ⟨L', Y', Planned.whole (gn := true) h hY hs ⟨c2'.1, c2'.2, c1'⟩ k⟩
end Go.Proofs.Ytkimldeagndgjaa

/- What an order that comes does to a book: plain facts. -/
namespace Go.Proofs.Ytkimldeagndgjaa
set_option linter.unusedVariables false
set_option linter.unusedSimpArgs false
open Go.RowKit

/-- A book is not crossed. -/
def NC (L : List Ord) : Prop := ∀ a ∈ L, ∀ c ∈ L, a.sd = 0 → c.sd = 1 → a.pr < c.pr
theorem bestP_mem {s : Int} {L Y : List Ord} (h : OfL s L Y) (hne : Y.isEmpty = false) : ∃ o ∈ L, o.sd = s ∧ o.pr = bestP Y := by
  cases Y with
  | nil => simp at hne
  | cons o r =>
    have := h.mem.1 (List.mem_cons_self (a := o) (l := r))
    exact ⟨o, this.1, this.2, rfl⟩
theorem nc_crossed {L Y0 Y1 : List Ord} (h : NC L) (h0 : OfL 0 L Y0) (h1 : OfL 1 L Y1) : (!Y0.isEmpty && !Y1.isEmpty && decide (bestP Y1 ≤ bestP Y0)) = false := by
  cases e0 : Y0.isEmpty
  · cases e1 : Y1.isEmpty
    · obtain ⟨a, ha, sa, pa⟩ := bestP_mem h0 e0
      obtain ⟨c, hc, sc, pc⟩ := bestP_mem h1 e1
      have := h a ha c hc sa sc
      simp; omega
    · rfl
  · rfl
theorem NC.sub {L L' : List Ord} (h : NC L) (hs : ∀ x ∈ L', ∃ y ∈ L, y.id = x.id ∧ y.sd = x.sd ∧ y.pr = x.pr) : NC L' := by
  intro a ha c hc sa sc
  obtain ⟨a', ha', _, e1, e2⟩ := hs a ha
  obtain ⟨c', hc', _, e3, e4⟩ := hs c hc
  rw [← e2, ← e4]
  exact h a' ha' c' hc' (by rw [e1, sa]) (by rw [e3, sc])
theorem fits_own {s p : Int} {L L' : List Ord} {K : Nat} (h : L'.filter (fun x => decide (x.sd = s)) = L.filter (fun x => decide (x.sd = s))) (hf : fitsB s p L K = true) : fitsB s p L' K = true := by
  have hm : ∀ x : Ord, x.sd = s → (x ∈ L' ↔ x ∈ L) := by
    intro x hx
    have : x ∈ L'.filter (fun x => decide (x.sd = s)) ↔ x ∈ L.filter (fun x => decide (x.sd = s)) := by rw [h]
    simpa [hx] using this
  rw [fitsB_iff] at hf ⊢
  rcases hf with ⟨x, hx, e1, e2⟩ | ⟨P, p1, p2, p3⟩
  · exact .inl ⟨x, (hm x e1).2 hx, e1, e2⟩
  · refine .inr ⟨P, p1, fun q => ?_, p3⟩
    rw [p2 q]
    constructor
    · rintro ⟨x, hx, e1, e2⟩; exact ⟨x, (hm x e1).2 hx, e1, e2⟩
    · rintro ⟨x, hx, e1, e2⟩; exact ⟨x, (hm x e1).1 hx, e1, e2⟩
theorem rests_yes {e : Entr} {Y : List Ord} {fs : List Fil} {left stop : Int} (h : restsB e Y fs left stop = true) :
    left ≠ 0 ∧ stop ≠ 3 ∧ staysB e = true ∧ 1 ≤ edgeV e ∧ edgeV e ≤ 1099511627776 ∧ beyondB e (edgeV e) = false ∧ metB e.o.sd (edgeV e) (meetL Y fs) = true := by
  unfold restsB at h
  rw [Bool.and_eq_true, Bool.not_eq_true', Bool.or_eq_false_iff, Bool.or_eq_false_iff, Bool.or_eq_false_iff, Bool.or_eq_false_iff, Bool.or_eq_false_iff] at h
  obtain ⟨⟨⟨⟨⟨⟨h1, h2⟩, h3⟩, h4⟩, h5⟩, h6⟩, h7⟩ := h
  refine ⟨by simpa using h1, by simpa using h2, by simpa using h3, ?_, ?_, h6, h7⟩
  · have := of_decide_eq_false h4; omega
  · have := of_decide_eq_false h5; omega
/-- What comes of an entry that is taken, in plain words. -/
structure Entered (e : Entr) (N K : Nat) (L Y : List Ord) (fs : List Fil) (left stop : Int) (L' : List Ord) : Prop where
  ap : apL fs L = (0, L')
  good : GoodL N L'
  sub : ∀ x ∈ L', ∃ y ∈ L, y.id = x.id ∧ y.sd = x.sd ∧ y.pr = x.pr
  left0 : 0 ≤ left
  sum : trS fs + left = e.o.qt
  fill : ∀ f ∈ fs, 1 ≤ f.qt ∧ f.qt ≤ 4294967296 ∧ e.lo ≤ f.pr ∧ f.pr ≤ e.hi ∧ worseB e.o.sd f.pr (limV e) = false
  id : ∀ x ∈ L', x.id ≠ e.o.id
  rest : restsB e Y fs left stop = true → left ≠ 0 ∧ addF N K L' (e.rest left) = 0 ∧ (NC L → NC (L' ++ [e.rest left]))
theorem enter_plain {N K : Nat} {L Y : List Ord} {e : Entr} {fs : List Fil} {left stop : Int} (h : GoodL N L) (hY : (e.o.sd = 0 ∨ e.o.sd = 1) → OfL (1 - e.o.sd) L Y) (hc : checkF e N K L Y = 0) (hm : mkL (takOf e) Y [] e.o.qt = (fs, left, stop)) :
    ∃ L', Entered e N K L Y fs left stop L' := by
  obtain ⟨k1, k2, k3, k4, k5, k6⟩ := check_ok hc
  have hs := (bad_no k1).1
  have hq := (rng_no k2).1
  obtain ⟨L', Y', k⟩ := mk_plan (takOf e) hs Y L e.o.qt h (hY hs) (by omega)
  rw [hm] at k
  have hid : ∀ x ∈ L', x.id ≠ e.o.id := by
    intro x hx ex
    obtain ⟨y, hy, e1, _⟩ := k.sub x hx
    unfold idB at k3
    rw [List.any_eq_false] at k3
    exact k3 y hy (by simp [e1, ex])
  refine ⟨L', k.ap, k.good, k.sub, k.left0, k.all, k.fill, hid, fun hr => ?_⟩
  obtain ⟨r1, r2, r3, r4, r5, r6, r7⟩ := rests_yes hr
  unfold fullB at k6
  rw [hm] at k6
  simp only [hr, Bool.true_and, Bool.not_eq_false', Bool.and_eq_true, decide_eq_true_iff] at k6
  have l0 := k.left0
  have la := k.all
  simp only at l0 la
  have lq : left ≤ 4294967296 := by
    have : 0 ≤ trS fs := (trS_bound fun f hf => by have := k.fill f hf; omega).1
    omega
  refine ⟨r1, ?_, fun hn => ?_⟩
  · unfold addF
    have h1 : ¬ (L'.any (fun x => decide (x.id = e.o.id)) = true) := by
      rw [List.any_eq_true]
      rintro ⟨x, hx, h2⟩
      exact hid x hx (of_decide_eq_true h2)
    have h2 : (fitsB e.o.sd (edgeV e) L' K && decide (L'.length < N)) = true := by
      have h3 := fits_own k.own k6.1
      have h4 := k.len
      rw [Bool.and_eq_true, decide_eq_true_iff]
      exact ⟨h3, by omega⟩
    rw [if_neg (fun hh => hh hs), if_neg (fun hh => hh ⟨hs, ⟨r4, r5⟩, ⟨by show 1 ≤ left; omega, lq⟩⟩)]
    exact (if_neg h1).trans (if_pos h2)
  · have hn' := hn.sub k.sub
    intro a ha c hc sa sc
    have hb : ∀ x ∈ L', x.sd = 1 - e.o.sd → metB e.o.sd (edgeV e) (some x.pr) = true := by
      intro x hx sx
      have hxY := k.of.mem.2 ⟨hx, sx⟩
      rw [k.meet] at r7
      cases hY' : Y' with
      | nil => rw [hY'] at hxY; simp at hxY
      | cons y r =>
        rw [hY'] at r7 hxY
        have hp := k.of.1
        rw [hY'] at hp
        have hle : keyI (1 - e.o.sd) y.pr ≤ keyI (1 - e.o.sd) x.pr := by
          rcases List.mem_cons.1 hxY with rfl | h2
          · exact Int.le_refl _
          · exact (List.pairwise_cons.1 hp).1 x h2
        simp only [List.head?_cons, Option.map_some, metB, betterB] at r7 ⊢
        unfold keyI at hle
        rcases hs with e0 | e0 <;> rw [e0] at r7 hle ⊢ <;> simp at r7 hle ⊢ <;> omega
    rcases List.mem_append.1 ha with ha | ha <;> rcases List.mem_append.1 hc with hc | hc
    · exact hn' a ha c hc sa sc
    · obtain rfl := List.mem_singleton.1 hc
      have e1 : e.o.sd = 1 := sc
      have := hb a ha (by omega)
      rw [e1] at this
      simpa [metB, betterB, Entr.rest] using this
    · obtain rfl := List.mem_singleton.1 ha
      have e1 : e.o.sd = 0 := sa
      have := hb c hc (by omega)
      rw [e1] at this
      simpa [metB, betterB, Entr.rest] using this
    · obtain rfl := List.mem_singleton.1 ha
      obtain rfl := List.mem_singleton.1 hc
      have e1 : e.o.sd = 0 := sa
      have e2 : e.o.sd = 1 := sc
      omega
end Go.Proofs.Ytkimldeagndgjaa

/- Orders that come: what the program makes of them, whole. -/
namespace Go.Proofs.Ytkimldeagndgjaa
set_option linter.unusedVariables false
set_option linter.unusedSimpArgs false
open Go.RowKit

/-- What Enter answers and leaves. -/
def EnterOut (w w' : World) (b : Nat) (D : List Nat) (N K : Nat) (e : Entr) (L Y : List Ord) (r : Ending) : Prop :=
  (checkF e N K L Y ≠ 0 ∧ r = .returned (.agg (resA (checkF e N K L Y) (.slice none 0 0) ord0 0 0)) ∧ Fr [] w w') ∨
  (checkF e N K L Y = 0 ∧ ∃ fs left stop L' v, mkL (takOf e) Y [] e.o.qt = (fs, left, stop) ∧ Entered e N K L Y fs left stop L' ∧ fs.length ≤ 500 ∧ RowF w' v fs ∧ (∀ g, v.ownBlock = some g → w.heap.size ≤ g) ∧
    ((restsB e Y fs left stop = false ∧ r = .returned (.agg (resA 0 v ord0 left (whyV e left stop))) ∧ Makes w b D N K L' w') ∨
     (restsB e Y fs left stop = true ∧ r = .returned (.agg (resA 0 v (e.rest left) 0 0)) ∧ Makes w b D N K (L' ++ [e.rest left]) w')))
theorem enter_any (w : World) (b : Nat) (D : List Nat) (N K : Nat) (L : List Ord) (h : BookI w b D N K L) (e : Entr) (hp : In64 e.o.pr) (Y : List Ord) (hY : (e.o.sd = 0 ∨ e.o.sd = 1) → OfL (1 - e.o.sd) L Y) :
    Calls Try.prog 51 #[.pointer (some ⟨b, 0, none⟩), .agg e.a] w fun r w' => EnterOut w w' b D N K e L Y r := by
  by_cases hc : checkF e N K L Y = 0
  · obtain ⟨fs, left, stop, hm⟩ : ∃ fs left stop, mkL (takOf e) Y [] e.o.qt = (fs, left, stop) := ⟨_, _, _, rfl⟩
    obtain ⟨L', hE⟩ := enter_plain h.goodL hY hc hm
    have hl := plan_len h (hY (bad_no (check_ok hc).1).1) (takOf e) e.o.qt
    rw [hm] at hl
    have hap : (apL fs L).2 = L' := by rw [hE.ap]
    cases hr : restsB e Y fs left stop
    · refine (enter_gone w b D N K L h e hp Y hY hc fs left stop hm hr).mono ?_
      rintro r w' ⟨v, h1, h2, h3, h4, h5⟩
      rw [hap] at h3
      exact .inr ⟨hc, fs, left, stop, L', v, hm, hE, hl, h4, h5, .inl ⟨hr, h1, h2, D, h3, fun x hx => .inl hx⟩⟩
    · refine (enter_rest w b D N K L h e hp Y hY hc fs left stop hm hr).mono ?_
      rintro r w' ⟨v, h1, h2, h4, h5⟩
      rw [hap] at h2
      have := (hE.rest hr).2.1
      unfold addL at h2
      rw [if_pos this] at h2
      exact .inr ⟨hc, fs, left, stop, L', v, hm, hE, hl, h4, h5, .inr ⟨hr, h1, h2⟩⟩
  · exact (enter_bad w b D N K L h e hp Y hY hc).mono fun r w' ⟨h1, h2⟩ => .inl ⟨hc, h1, h2⟩
theorem whyV_zero {e : Entr} {left stop : Int} : whyV e left stop = 0 ↔ left = 0 := by
  unfold whyV
  split
  · simp [*]
  · split
    · simp [*]
    · split <;> simp [*]
end Go.Proofs.Ytkimldeagndgjaa

/- Layer 15's law: an entry as the program's, and what must come at any rate, walked. -/
namespace Go.Proofs.Ytkimldeagndgjaa
set_option linter.unusedVariables false
set_option linter.unusedSimpArgs false
open Go.RowKit Go.Shelf

theorem info_ent : (Try.prog.info? 102).map (·.size) = some 11 := by kernel_rfl
theorem info_band : (Try.prog.info? 77).map (·.size) = some 2 := by kernel_rfl
theorem wpList_storeE {ops : Array Oper} {rest : List Oper} {p : Oper} {a : Act} {w : World} {Q : Exit → Act → World → Prop} (hgd : p.guard = none) (x y : Operand) (hp : p.op = .store 102 x y)
    (g : Nat) (old : Array Value) (e : Entr) (hx : a.eval x = .pointer (some ⟨g, 0, none⟩)) (hy : a.eval y = .agg e.a) (B : Blk w g 102 old) (h1 : old.size = 11)
    (h : ∀ w', Blk w' g 102 e.a → Fr [g] w w' → wpList Try.prog ops Q rest (a.put p.dst undef) w') : wpList Try.prog ops Q (p :: rest) a w :=
  wpList_store_row hgd _ x y hp g _ hx hy _ _ B info_ent (by rw [h1]; rfl) (by simp [Value.oneCell'])
    (h _ (setRow_heap w g _ _ _ _ B) ⟨rfl, rfl, rfl, by simp [World.setRow], fun k _ hk => setRow_other w g k _ (fun e => hk (by simp [e]))⟩)
theorem own_any (w : World) (e : Entr) : Calls Try.prog 52 #[.agg e.a] w fun r w' => r = .returned (.agg e.a) ∧ Fr [] w w' := by
  go_enter Try.func52, Try.ntmps52
  have B0 : Blk (w.alloc (.cells e.a 98)) w.heap.size 98 e.a := Blk.new _ _ _
  go_wp2_with fail
  refine bodyPost_ret (v := .agg e.a) (by simp [results, Try.results52, go_sem]) rfl ⟨rfl, ?_⟩
  with_reducible repeat (first | exact Fr.refl _ _ | apply Fr.alloc | (apply Fr.setNew; (first | omega | (simp; omega))))

/-- The chapter's example. -/
def mx1 : Entr := ⟨⟨1, 0, 1, 10, 5, 0, 0⟩, 1, 1, 100, 0⟩
def mx2 : Entr := ⟨⟨2, 0, 0, 10, 8, 0, 0⟩, 1, 1, 100, 0⟩
theorem mx1_ok : checkF mx1 5 5 [] [] = 0 := by decide +kernel
theorem mx1_mk : mkL (takOf mx1) [] [] mx1.o.qt = ([], 5, 1) := by decide +kernel
theorem mx1_rest : restsB mx1 [] [] 5 1 = true := by decide +kernel
theorem mx1_r : mx1.rest 5 = mx1.o := by decide +kernel
theorem mx2_ok : checkF mx2 5 5 [mx1.o] [mx1.o] = 0 := by decide +kernel
theorem mx2_mk : mkL (takOf mx2) [mx1.o] [] mx2.o.qt = ([⟨1, 10, 5, false⟩], 3, 1) := by decide +kernel
theorem mx2_rest : restsB mx2 [mx1.o] [⟨1, 10, 5, false⟩] 3 1 = true := by decide +kernel
theorem mx2_r : mx2.rest 3 = ⟨2, 0, 0, 10, 3, 0, 0⟩ := by decide +kernel
theorem mx2_of : OfL (1 - mx2.o.sd) [mx1.o] [mx1.o] := by
  refine ⟨by simp, fun p => ?_⟩
  simp [mx1, mx2, List.filter_cons]
theorem mx1_enter (w : World) (b : Nat) (D : List Nat) (h : BookI w b D 5 5 []) :
    Calls Try.prog 51 #[.pointer (some ⟨b, 0, none⟩), .agg mx1.a] w fun r w' => ∃ v, r = .returned (.agg (resA 0 v ⟨1, 0, 1, 10, 5, 0, 0⟩ 0 0)) ∧ RowF w' v [] ∧ (∀ g, v.ownBlock = some g → w.heap.size ≤ g) ∧ Makes w b D 5 5 [mx1.o] w' := by
  refine (enter_any w b D 5 5 [] h mx1 (by unfold In64 mx1; decide) [] (fun _ => ⟨by simp, by simp⟩)).mono fun r w' ho => ?_
  rcases ho with ⟨h1, _⟩ | ⟨_, fs, left, stop, L', v, hm, hE, _, hR, hv, h2⟩
  · exact absurd mx1_ok h1
  · rw [mx1_mk] at hm
    obtain ⟨rfl, rfl, rfl⟩ : [] = fs ∧ 5 = left ∧ 1 = stop := by simpa using hm
    have hL : L' = [] := by have := hE.ap; simpa [apL] using this.symm
    subst hL
    rcases h2 with ⟨h3, _⟩ | ⟨_, h3, h4⟩
    · rw [mx1_rest] at h3; cases h3
    · rw [mx1_r] at h3 h4
      exact ⟨v, h3, hR, hv, h4⟩
theorem mx2_enter (w : World) (b : Nat) (D : List Nat) (h : BookI w b D 5 5 [mx1.o]) :
    Calls Try.prog 51 #[.pointer (some ⟨b, 0, none⟩), .agg mx2.a] w fun r w' => ∃ v, r = .returned (.agg (resA 0 v ⟨2, 0, 0, 10, 3, 0, 0⟩ 0 0)) ∧ RowF w' v [⟨1, 10, 5, false⟩] ∧ (∀ g, v.ownBlock = some g → w.heap.size ≤ g) ∧ Fr D w w' := by
  refine (enter_any w b D 5 5 _ h mx2 (by unfold In64 mx2; decide) [mx1.o] (fun _ => mx2_of)).mono fun r w' ho => ?_
  rcases ho with ⟨h1, _⟩ | ⟨_, fs, left, stop, L', v, hm, hE, _, hR, hv, h2⟩
  · exact absurd mx2_ok h1
  · rw [mx2_mk] at hm
    obtain ⟨rfl, rfl, rfl⟩ : [⟨1, 10, 5, false⟩] = fs ∧ 3 = left ∧ 1 = stop := by simpa using hm
    rcases h2 with ⟨h3, _⟩ | ⟨_, h3, h4⟩
    · rw [mx2_rest] at h3; cases h3
    · rw [mx2_r] at h3
      exact ⟨v, h3, hR, hv, h4.1⟩
set_option maxHeartbeats 4000000 in
theorem alive15_any (w : World) : Calls Try.prog 50 #[] w fun e w' => e = .returned (.bool true) ∧ Fr [] w w' := by
  go_enter Try.func50, Try.ntmps50
  go_wp2_with fail
  refine (newBook_new w 5 5 (by omega) (by omega) (by omega) (by omega)).mono ?_
  rintro e w1 ⟨b, rfl, F1, D, hB, hD⟩
  go_wp2_with fail
  refine calls_named (fun W2 hW => ?_)
  have C2 := Blk.box0 hW
  have F2 : Fr [] w1 W2 := Fr.eqv hW (by with_reducible repeat (first | exact Fr.refl _ _ | assumption | apply Fr.drew | apply Fr.drewN | apply Fr.alloc | (apply Fr.step; assumption; (intro _ h; (first | exact h | (focus (simp_all; done))))) | (apply Fr.setIn; (first | exact List.mem_cons_self | exact List.mem_cons_of_mem _ List.mem_cons_self | exact List.mem_cons_of_mem _ (List.mem_cons_of_mem _ List.mem_cons_self) | exact List.mem_cons_of_mem _ (List.mem_cons_of_mem _ (List.mem_cons_of_mem _ List.mem_cons_self)))) | (apply Fr.setNew; (first | omega | (simp; omega)))))
  have hl2 := hB.lts'
  refine (mx1_enter W2 b D (hB.fr F2 (by simp))).mono ?_
  rintro r w3 ⟨v, rfl, R3, hv, F3, D', hB3, hD3⟩
  have C3 := Blk.via F3 (fun hm => by have := hl2 _ hm; omega) C2
  have c3 := C3.cell
  have l3 := C3.lt
  obtain ⟨A, c, rfl, _⟩ := R3.form
  go_wp2_with fail
  refine calls_named (fun W4 hW => ?_)
  have P4 := Blk.box0 hW
  have F4 : Fr [] w3 W4 := Fr.eqv hW (by with_reducible repeat (first | exact Fr.refl _ _ | assumption | apply Fr.drew | apply Fr.drewN | apply Fr.alloc | (apply Fr.step; assumption; (intro _ h; (first | exact h | (focus (simp_all; done))))) | (apply Fr.setIn; (first | exact List.mem_cons_self | exact List.mem_cons_of_mem _ List.mem_cons_self | exact List.mem_cons_of_mem _ (List.mem_cons_of_mem _ List.mem_cons_self) | exact List.mem_cons_of_mem _ (List.mem_cons_of_mem _ (List.mem_cons_of_mem _ List.mem_cons_self)))) | (apply Fr.setNew; (first | omega | (simp; omega)))))
  have hl3 := hB3.lts'
  have F02 : Fr [] w W4 := (fr_newD hD (F1.trans F2) F3).trans F4
  have hD0 : ∀ x ∈ D', w.heap.size ≤ x := fun x hx => by
    rcases hD3 x hx with h | h
    · exact hD x h
    · have := (F1.trans F2).size; omega
  refine (mx2_enter W4 b D' (hB3.fr F4 (by simp))).mono ?_
  rintro r w5 ⟨v, rfl, R5, hv5, F5⟩
  have P5 := Blk.via F5 (fun hm => by have := hl3 _ hm; omega) P4
  have F05 := fr_newD hD0 F02 F5
  obtain ⟨g, c', rfl, _, hg, hcell⟩ := R5.at encF_ok.len (by simp)
  have q5 := P5.cell
  have s5 := P5.lt
  have x2 : w5.cell? ⟨g, 2, none⟩ = some (.int .i64 5) := by simpa using hcell 0 _ rfl 2 _ rfl
  clear hcell R5 hv5 hv R3 hB hB3 C2 C3 c3 l3 F1 F2 F3 F4 F5 F02 hl2 hl3 hD hD0 hD3
  go_wp2_with fail
  go_ret
  exact ⟨rfl, F05.alloc _⟩
end Go.Proofs.Ytkimldeagndgjaa
