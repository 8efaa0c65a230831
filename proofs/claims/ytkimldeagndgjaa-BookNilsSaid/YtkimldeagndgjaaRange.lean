/- Ranges over iterators whose caller's words abide an inner loop's own records: an iterator may range over iterators. (Turned from the kit's laws wpIn_rangeFunc_ownH and .._ownN.) No program stands in this text. -/
import Derived.Test.YtkimldeagndgjaaSeq
namespace Go.Proofs.Ytkimldeagndgjaa
set_option linter.unusedVariables false
set_option linter.unusedSimpArgs false
open Go.RowKit Go.Shelf

theorem yieldAt_to {m m' : Nat} {P : Program} {l : Nat} {args : Array Value} {W : World} {R : Ending → World → Prop} (h : YieldAt Fence.wide m P l args W R) : YieldAt Fence.wide m' P l args W R := by
  obtain ⟨fn, tmps, assign, body, hy, hR⟩ := h
  exact ⟨fn, tmps, assign, body, hy, hR.1, fun c cs _ => hR.2 c cs (room_wide _)⟩

/-- What an iterator over L owes: T: the blocks that a round must leave as they lay. -/
def SeqOwn {α : Type} (P : Program) (g : Nat) (lb : Array Value) (encs : α → Array Value) (T : List Nat) (L : List α) (w : World) : Prop :=
  ∀ (l : Nat) (J Jx : List α → World → Prop) (W : World), Below w.heap.size w W → OwnFrom W.heap.size J → OwnFrom W.heap.size Jx →
    (∀ pre x W1, J pre W1 → pre ++ [x] <+: L → YieldAt Fence.wide 0 P l (encs x) W1 fun e W' => KeepsFrom W.heap.size W1 W' ∧
      ((e = .returned (.bool true) ∧ J (pre ++ [x]) W' ∧ Same T W1 W') ∨ (e = .returned (.bool false) ∧ Jx (pre ++ [x]) W'))) →
    J [] W → Calls P g (#[.func (.yield l) #[] #[]] ++ lb) W fun e W' => (∃ v, e = .returned v) ∧ (J L W' ∨ ∃ pre, pre <+: L ∧ Jx pre W')

theorem own_up {β : Type} {B B' : Nat} {I : β → World → Prop} (h : OwnFrom B I) (hB : B ≤ B') : OwnFrom B' I := fun s W W' row hs hg hr => h s W W' row hs hg (fun r e => ⟨Nat.le_trans hB (hr r e).1, (hr r e).2⟩)

theorem same_putObj {T : List Nat} {W : World} {l : Nat} (hT : ∀ t ∈ T, t ≠ l) (o : Obj) : Same T W (W.putObj l o) := ⟨by simp, fun k hk => World.putObj_heap_other (fun e => hT k hk e)⟩
theorem keeps_putObj {B : Nat} {W : World} {l : Nat} (hB : l < B) (o : Obj) : KeepsFrom B W (W.putObj l o) := ⟨by simp, fun k o' hk h _ => (World.putObj_heap_other (by omega)).trans h⟩
theorem keeps_up {B B' : Nat} {W W' : World} (h : KeepsFrom B W W') (hB : B ≤ B') : KeepsFrom B' W W' := ⟨h.size, fun k o hk => h.same k o (Nat.le_trans hB hk)⟩

section
variable {α : Type} {P : Program} {F : Fence} {g : Operand} {ps : Array Tmp} {assign body : Code} {Q : Exit → Act → World → Prop} {a : Act} {w : World}

/-- The loop's record. -/
def recOf (a : Act) (ps : Array Tmp) (assign body : Code) (d : Nat) (fn : FuncId) (st : LoopState) (pe : Option Code) : Loop := { state := st, pending := pe, fn, tmps := a.tmps, params := ps, assign, body, defers := d }

/-- The rounds and what stands behind them, once the record l lies. -/
theorem range_core (hF : F = Fence.wide ∨ ∃ l₀, F = Fence.wide.inRound l₀) {l d : Nat} {mark : List Deferred} (W1 : FuncId → World)
    (henter : ∀ fn, (Instr.enterLoop fn a.tmps ps assign body F.round).run P w = .ok (l, mark) (W1 fn)) (hl1 : ∀ fn, (W1 fn).heap[l]? = some (.loop (recOf a ps assign body d fn .ready none))) (hsz : ∀ fn, (W1 fn).heap.size = l + 1)
    {gf : Nat} {lb : Array Value} (hg : a.eval g = .func (.func gf) #[] lb) (eg : ∀ args w, (callFunc gf args).run P w = .ok (.enter gf args) w)
    {encs : α → Array Value} {T : List Nat} {L : List α} {w0 : World} (hseq : SeqOwn P gf lb encs T L w0) (hb0 : ∀ fn, Below w0.heap.size w0 (W1 fn)) (hps : ∀ x, (encs x).size = ps.size)
    (B : Nat) (hB : B ≤ l) (hT : ∀ t ∈ T, t < l) (I : List α → World → Prop) (Ix : Code → List α → World → Prop) (Ia : List α → α → Act → World → Prop)
    (hI : OwnFrom (l + 1) I) (hIx : ∀ c, OwnFrom (l + 1) (Ix c))
    (pI : ∀ pre W r r', I pre W → W.heap[l]? = some (.loop r) → I pre (W.putObj l (.loop r'))) (pIx : ∀ c pre W r r', Ix c pre W → W.heap[l]? = some (.loop r) → Ix c pre (W.putObj l (.loop r')))
    (pIa : ∀ pre x a' W r r', Ia pre x a' W → W.heap[l]? = some (.loop r) → Ia pre x a' (W.putObj l (.loop r'))) (h0 : ∀ fn, I [] (W1 fn))
    (hassign : ∀ (pre : List α) (x : α) (W : World) (K : Act → World → Prop), I pre W → pre ++ [x] <+: L → (∀ a' W', KeepsFrom B W W' → Same T W W' → Ia pre x a' W' → K a' W') →
      assign.wpIn (Fence.wide.inRound l) 0 P (Exit.then K (fun _ _ _ => False)) { tmps := (ps.zip (encs x)).foldl (fun t (p, v) => t.setIfInBounds p v) a.tmps, defers := [] } W)
    (hbody : ∀ (pre : List α) (x : α) (a' : Act) (W : World), (∃ r, W.heap[l]? = some (.loop r)) → Ia pre x a' W → pre ++ [x] <+: L → body.wpIn (Fence.wide.inRound l) 0 P (ownPostG B (Same T) I Ix (pre ++ [x]) W) a' W)
    (hdone : ∀ (W : World), I L W → Q .normal { a with defers := mark ++ a.defers } W)
    (hstop : ∀ (c : Code) (pre : List α) (W : World), pre <+: L → Ix c pre W → c.wpIn F 0 P Q { a with defers := mark ++ a.defers } W) :
    (Code.rangeFunc g ps assign body).wpIn F 0 P Q a w := by
  refine wpIn_rangeFunc ?_
  intro fn hfn
  have hcore : Calls P gf (#[.func (.yield l) #[] #[]] ++ lb) (W1 fn) (rangePost F 0 P l Q { a with defers := mark ++ a.defers }) := by
    refine (hseq l (fun pre W => I pre W ∧ W.heap[l]? = some (.loop (recOf a ps assign body d fn .ready none)))
      (fun pre W => ∃ c, Ix c pre W ∧ W.heap[l]? = some (.loop (recOf a ps assign body d fn .done (some c)))) (W1 fn) (hb0 fn) ?_ ?_ ?_ ⟨h0 fn, hl1 fn⟩).mono ?_
    · rw [hsz fn]
      exact fun s A C row hs hgr hr => ⟨hI s A C row hs.1 hgr hr, (hgr.block l (Array.getElem?_eq_some_iff.1 hs.2).1 (fun e => by have := (hr l e.symm).1; omega)).trans hs.2⟩
    · rw [hsz fn]
      rintro s A C row ⟨c, hc, hl⟩ hgr hr
      exact ⟨c, hIx c s A C row hc hgr hr, (hgr.block l (Array.getElem?_eq_some_iff.1 hl).1 (fun e => by have := (hr l e.symm).1; omega)).trans hl⟩
    · rintro pre x W ⟨hi, hl⟩ hpx
      have hy := run_yield (P := P) (args := encs x) hl (hps x)
      refine ⟨fn, _, assign, body, hy, roundIn_of_wpIn trivial (hassign pre x W _ hi hpx ?_)⟩
      intro a' Wa hka hsa hia
      have hla := hka.same _ _ hB hl rfl
      refine ⟨_, run_beginRound hla rfl, ?_⟩
      have hlt : l < Wa.heap.size := (Array.getElem?_eq_some_iff.1 hla).1
      have hl2 := World.putObj_heap_same (o := .loop { recOf a ps assign body d fn .ready none with state := .busy }) hlt
      refine wpIn_mono (hbody pre x a' _ ⟨_, hl2⟩ (pIa _ _ _ _ _ _ hia hla) hpx) ?_
      have hTl : ∀ t ∈ T, t ≠ l := fun t ht e => by have := hT t ht; omega
      have fin : ∀ (jump : Option Code) (W3 : World), KeepsFrom B (Wa.putObj l (.loop { recOf a ps assign body d fn .ready none with state := .busy })) W3 →
          ∃ r3, W3.heap[l]? = some (.loop r3) ∧ (Instr.endRound l jump).run P W3 = .ok (.bool jump.isNone) (W3.putObj l (.loop (recOf a ps assign body d fn (if jump.isNone then .ready else .done) jump))) ∧
          (W3.putObj l (.loop (recOf a ps assign body d fn (if jump.isNone then .ready else .done) jump))).heap[l]? = some (.loop (recOf a ps assign body d fn (if jump.isNone then .ready else .done) jump)) ∧
          KeepsFrom (W1 fn).heap.size W (W3.putObj l (.loop (recOf a ps assign body d fn (if jump.isNone then .ready else .done) jump))) := fun jump W3 hk3 => by
        have hl3 := hk3.same _ _ hB hl2 rfl
        refine ⟨_, hl3, run_endRound (P := P) jump hl3, World.putObj_heap_same (Array.getElem?_eq_some_iff.1 hl3).1, ?_⟩
        rw [hsz fn]
        exact (((keeps_up hka (by omega)).trans (keeps_putObj (by omega) _)).trans (keeps_up hk3 (by omega))).trans (keeps_putObj (by omega) _)
      rintro e a3 W3 hp
      cases e with
      | normal =>
        obtain ⟨hk3, hs3, hi3⟩ := hp
        obtain ⟨r3, hl3, hr, hl4, hk4⟩ := fin none W3 hk3
        exact ⟨_, _, hr, hk4, .inl ⟨rfl, ⟨pI _ _ _ _ hi3 hl3, hl4⟩, ((hsa.trans (same_putObj hTl _)).trans hs3).trans (same_putObj hTl _)⟩⟩
      | ret =>
        obtain ⟨hk3, hi3⟩ := hp
        obtain ⟨r3, hl3, hr, hl4, hk4⟩ := fin (some .ret) W3 hk3
        exact ⟨_, _, hr, hk4, .inr ⟨rfl, .ret, pIx _ _ _ _ _ hi3 hl3, hl4⟩⟩
      | exit id =>
        obtain ⟨hk3, hi3⟩ := hp
        obtain ⟨r3, hl3, hr, hl4, hk4⟩ := fin (some (.exit id)) W3 hk3
        exact ⟨_, _, hr, hk4, .inr ⟨rfl, .exit id, pIx _ _ _ _ _ hi3 hl3, hl4⟩⟩
      | goto t =>
        obtain ⟨hk3, hi3⟩ := hp
        obtain ⟨r3, hl3, hr, hl4, hk4⟩ := fin (some (.goto t)) W3 hk3
        exact ⟨_, _, hr, hk4, .inr ⟨rfl, .goto t, pIx _ _ _ _ _ hi3 hl3, hl4⟩⟩
      | panic ch => exact hp.elim
      | outgrown => exact hp.elim
    · rintro e W2 ⟨⟨v, rfl⟩, (⟨hi, hl⟩ | ⟨pre, hpre, c, hi, hl⟩)⟩
      · exact ⟨none, _, run_endLoop (P := P) hl (by simp [recOf]), hdone _ (pI _ _ _ _ hi hl)⟩
      · exact ⟨some c, _, run_endLoop (P := P) hl (by simp [recOf]), hstop c pre _ hpre (pIx _ _ _ _ _ hi hl)⟩
  refine ⟨l, mark, W1 fn, { target := .fn (.func gf) lb, args := #[.func (.yield l) #[] #[]] }, W1 fn, gf, #[.func (.yield l) #[] #[]] ++ lb, W1 fn, henter fn, ?_, ?_, ?_, ?_, ?_⟩
  · simp only [resolve, hg]
    simp [go_sem]
  · rintro f' _
    rcases hF with rfl | ⟨l₀, rfl⟩ <;> trivial
  · simp [invoke, go_sem, eg]
  · intro hd
    rcases hF with rfl | ⟨l₀, rfl⟩ <;> simp [Fence.wide, Fence.inRound] at hd
  · rcases hF with rfl | ⟨l₀, rfl⟩
    · exact callsIn_wide.2 hcore
    · exact CallsIn.inRound l₀ (callsIn_wide.2 hcore)

/-- A range over an iterator in a function's own frame. -/
theorem range_outer {gf : Nat} {lb : Array Value} (hg : a.eval g = .func (.func gf) #[] lb) (eg : ∀ args w, (callFunc gf args).run P w = .ok (.enter gf args) w)
    {encs : α → Array Value} {T : List Nat} {L : List α} {w0 : World} (hseq : SeqOwn P gf lb encs T L w0) (hb0 : Below w0.heap.size w0 w) (hps : ∀ x, (encs x).size = ps.size) (hT : ∀ t ∈ T, t < w.heap.size)
    (I : List α → World → Prop) (Ix : Code → List α → World → Prop) (Ia : List α → α → Act → World → Prop)
    (hI : OwnFrom w.heap.size I) (hIx : ∀ c, OwnFrom w.heap.size (Ix c)) (hIa : ∀ pre x, OwnFrom w.heap.size (Ia pre x)) (h0 : I [] w)
    (hassign : ∀ (l : Nat) (pre : List α) (x : α) (W : World) (K : Act → World → Prop), I pre W → pre ++ [x] <+: L → (∀ a' W', KeepsFrom w.heap.size W W' → Same T W W' → Ia pre x a' W' → K a' W') →
      assign.wpIn (Fence.wide.inRound l) 0 P (Exit.then K (fun _ _ _ => False)) { tmps := (ps.zip (encs x)).foldl (fun t (p, v) => t.setIfInBounds p v) a.tmps, defers := [] } W)
    (hbody : ∀ (l : Nat) (pre : List α) (x : α) (a' : Act) (W : World), w.heap.size ≤ l → (∃ r, W.heap[l]? = some (.loop r)) → Ia pre x a' W → pre ++ [x] <+: L → body.wpIn (Fence.wide.inRound l) 0 P (ownPostG w.heap.size (Same T) I Ix (pre ++ [x]) W) a' W)
    (hdone : ∀ (D : Nat) (W : World), w.heap.size ≤ D → I L W → W.heap[D]? = some (.deferred (some [])) → Q .normal { a with defers := { target := .collected D, args := #[] } :: a.defers } W)
    (hstop : ∀ (D : Nat) (c : Code) (pre : List α) (W : World), w.heap.size ≤ D → pre <+: L → Ix c pre W → W.heap[D]? = some (.deferred (some [])) → c.wpIn Fence.wide 0 P Q { a with defers := { target := .collected D, args := #[] } :: a.defers } W) :
    (Code.rangeFunc g ps assign body).wpIn Fence.wide 0 P Q a w := by
  have hkeep : ∀ {W W' : World}, KeepsFrom w.heap.size W W' → W.heap[w.heap.size]? = some (.deferred (some [])) → W'.heap[w.heap.size]? = some (.deferred (some [])) := fun hk h => hk.same _ _ (Nat.le_refl _) h rfl
  have hown : ∀ {β : Type}, OwnFrom (w.heap.size + 1 + 1) (fun (_ : β) (W : World) => W.heap[w.heap.size]? = some (.deferred (some []))) := fun s A C row hs hgr hr => (hgr.block _ (Array.getElem?_eq_some_iff.1 hs).1 (fun e => by have := (hr _ e.symm).1; omega)).trans hs
  have hput : ∀ (W : World) (o : Obj), W.heap[w.heap.size]? = some (.deferred (some [])) → (W.putObj (w.heap.size + 1) o).heap[w.heap.size]? = some (.deferred (some [])) := fun W o h => (World.putObj_heap_other (by omega)).trans h
  refine range_core (.inl rfl) (l := w.heap.size + 1) (d := w.heap.size) (mark := [{ target := .collected w.heap.size, args := #[] }])
    (fun fn => (w.alloc (.deferred (some []))).alloc (.loop (recOf a ps assign body w.heap.size fn .ready none))) (fun fn => run_enterLoop_outer _ _ _ _ _)
    (fun fn => by have := World.alloc_heap_new (w.alloc (.deferred (some []))) (.loop (recOf a ps assign body w.heap.size fn .ready none)); rwa [World.size_alloc] at this) (fun fn => by simp) hg eg hseq
    (fun fn => hb0.trans ((((Below.refl _ w).alloc (Nat.le_refl _) _).alloc (by simp) _).mono hb0.size)) hps w.heap.size (by omega) (fun t ht => by have := hT t ht; omega)
    (fun pre W => I pre W ∧ W.heap[w.heap.size]? = some (.deferred (some []))) (fun c pre W => Ix c pre W ∧ W.heap[w.heap.size]? = some (.deferred (some []))) (fun pre x a' W => Ia pre x a' W ∧ W.heap[w.heap.size]? = some (.deferred (some [])))
    (OwnFrom.and (own_up hI (by omega)) hown) (fun c => OwnFrom.and (own_up (hIx c) (by omega)) hown)
    (fun pre W r r' h hl => ⟨hI.putObj _ h.1 (by omega) hl rfl, hput _ _ h.2⟩) (fun c pre W r r' h hl => ⟨(hIx c).putObj _ h.1 (by omega) hl rfl, hput _ _ h.2⟩) (fun pre x a' W r r' h hl => ⟨(hIa pre x).putObj _ h.1 (by omega) hl rfl, hput _ _ h.2⟩)
    (fun fn => ⟨hI.alloc _ (hI.alloc _ h0), (Below.heap_alloc _ _ _ (by simp)).trans (World.alloc_heap_new w _)⟩)
    (fun pre x W K hi hpx hK => hassign _ pre x W K hi.1 hpx (fun a' W' h1 h2 h3 => hK a' W' h1 h2 ⟨h3, hkeep h1 hi.2⟩))
    (fun pre x a' W hr hi hpx => wpIn_mono (hbody _ pre x a' W (by omega) hr hi.1 hpx) ?_)
    (fun W h => hdone _ W (Nat.le_refl _) h.1 h.2) (fun c pre W hpre h => hstop _ c pre W (Nat.le_refl _) hpre h.1 h.2)
  rintro e a3 W3 hp
  cases e with
  | normal => exact ⟨hp.1, hp.2.1, hp.2.2, hkeep hp.1 hi.2⟩
  | ret => exact ⟨hp.1, hp.2, hkeep hp.1 hi.2⟩
  | exit id => exact ⟨hp.1, hp.2, hkeep hp.1 hi.2⟩
  | goto t => exact ⟨hp.1, hp.2, hkeep hp.1 hi.2⟩
  | panic ch => exact hp.elim
  | outgrown => exact hp.elim

/-- .. within a round of loop l₀. -/
theorem range_inner {l₀ : Nat} {r₀ : Loop} (hl₀ : w.heap[l₀]? = some (.loop r₀)) {gf : Nat} {lb : Array Value} (hg : a.eval g = .func (.func gf) #[] lb) (eg : ∀ args w, (callFunc gf args).run P w = .ok (.enter gf args) w)
    {encs : α → Array Value} {T : List Nat} {L : List α} {w0 : World} (hseq : SeqOwn P gf lb encs T L w0) (hb0 : Below w0.heap.size w0 w) (hps : ∀ x, (encs x).size = ps.size) (hT : ∀ t ∈ T, t < w.heap.size)
    (I : List α → World → Prop) (Ix : Code → List α → World → Prop) (Ia : List α → α → Act → World → Prop)
    (hI : OwnFrom w.heap.size I) (hIx : ∀ c, OwnFrom w.heap.size (Ix c)) (hIa : ∀ pre x, OwnFrom w.heap.size (Ia pre x)) (h0 : I [] w)
    (hassign : ∀ (l : Nat) (pre : List α) (x : α) (W : World) (K : Act → World → Prop), I pre W → pre ++ [x] <+: L → (∀ a' W', KeepsFrom w.heap.size W W' → Same T W W' → Ia pre x a' W' → K a' W') →
      assign.wpIn (Fence.wide.inRound l) 0 P (Exit.then K (fun _ _ _ => False)) { tmps := (ps.zip (encs x)).foldl (fun t (p, v) => t.setIfInBounds p v) a.tmps, defers := [] } W)
    (hbody : ∀ (l : Nat) (pre : List α) (x : α) (a' : Act) (W : World), w.heap.size ≤ l → (∃ r, W.heap[l]? = some (.loop r)) → Ia pre x a' W → pre ++ [x] <+: L → body.wpIn (Fence.wide.inRound l) 0 P (ownPostG w.heap.size (Same T) I Ix (pre ++ [x]) W) a' W)
    (hdone : ∀ (W : World), I L W → Q .normal a W)
    (hstop : ∀ (c : Code) (pre : List α) (W : World), pre <+: L → Ix c pre W → c.wpIn (Fence.wide.inRound l₀) 0 P Q a W) :
    (Code.rangeFunc g ps assign body).wpIn (Fence.wide.inRound l₀) 0 P Q a w :=
  range_core (.inr ⟨l₀, rfl⟩) (l := w.heap.size) (d := r₀.defers) (mark := [])
    (fun fn => w.alloc (.loop (recOf a ps assign body r₀.defers fn .ready none))) (fun fn => run_enterLoop_inner hl₀ _ _ _ _ _)
    (fun fn => World.alloc_heap_new w _) (fun fn => by simp) hg eg hseq
    (fun fn => hb0.trans (((Below.refl _ w).alloc (Nat.le_refl _) _).mono hb0.size)) hps w.heap.size (Nat.le_refl _) hT
    I Ix Ia (own_up hI (by omega)) (fun c => own_up (hIx c) (by omega))
    (fun pre W r r' h hl => hI.putObj _ h (Nat.le_refl _) hl rfl) (fun c pre W r r' h hl => (hIx c).putObj _ h (Nat.le_refl _) hl rfl) (fun pre x a' W r r' h hl => (hIa pre x).putObj _ h (Nat.le_refl _) hl rfl)
    (fun fn => hI.alloc _ h0) (fun pre x W K hi hpx hK => hassign _ pre x W K hi hpx hK)
    (fun pre x a' W hr hi hpx => hbody _ pre x a' W (Nat.le_refl _) hr hi hpx)
    (fun W h => hdone W h) (fun c pre W hpre h => hstop c pre W hpre h)
end
end Go.Proofs.Ytkimldeagndgjaa
