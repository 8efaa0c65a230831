/- The law's plain configuration of one symbol, and admit's example, walked. -/
import Derived.Test.YtgddmkgmpibpgaaAdmE
import Derived.Test.YtgddmkgmpibpgaaCopy
import Derived.Test.YtgddmkgmpibpgaaLoad
import Derived.Outline
namespace Go.Proofs.Ytgddmkgmpibpgaa
set_option linter.unusedVariables false
set_option linter.unusedSimpArgs false
open Go.RowKit Go.Shelf

def symL : List Value := [.int .i64 5, .int .i64 1000, .int .i64 2000, .int .i64 500, .int .i64 20, .int .i64 100, .int .i64 3, .int .i64 10, .int .i64 5, .int .i64 2, .int .i64 500, .int .i64 500, .int .i64 1, .int .i64 40, .int .i64 12, .int .i64 1000]
abbrev cfgA (v t : Value) : Array Value := #[v, t, .int .i64 10000, .int .i64 700, .int .i64 1300, .int .i64 2000, .int .i64 15, .int .i64 30]
theorem info_symz : (Try.prog.info? 25).map (fun i => (i.zero, i.size, i.bytes)) = some (some (.agg (madeCells #[.int .i64 0] 16)), 16, 128) := by kernel_rfl
theorem wpList_appSym {w : World} {ops : Array Oper} {rest : List Oper} {o : Oper} {a : Act} {Q : Exit → Act → World → Prop} (hgd : o.guard = none) (s x : Operand)
    (ho : o.op = .call { callee := .builtin .append, args := #[s, x], argTypes := #[123, 123] }) (hv : a.eval s = .slice none 0 0) (gx c : Nat) (hx : a.eval x = .slice (some ⟨gx, 0, none⟩) 1 c) (hy : Blk w gx 25 symL.toArray)
    (h : ∀ w' cap new, 1 ≤ cap → Blk w' w.heap.size 25 new → new.size = cap * 16 → (∀ j, j < 16 → new[j]? = symL[j]?) → Fr [] w w' → wpList Try.prog ops Q rest (a.put o.dst (.slice (some ⟨w.heap.size, 0, none⟩) 1 cap)) w') :
    wpList Try.prog ops Q (o :: rest) a w := by
  obtain ⟨ii, hii, hz0, hz1, hz2⟩ := info_parts info_symz
  obtain ⟨g', cap', new, w', hrun, hge, B', hsz', _, hnew, F, hat⟩ := run_appS (P := Try.prog) w 123 o.type 25 ii _ 16 Try.underlying123 hii hz0 hz1 (by simp [Value.cells, madeCells]) (by omega) (by omega) (.slice none 0 0) 0 (.inl ⟨rfl, rfl⟩) ⟨gx, 0, none⟩ 1 c symL rfl
    (fun j u hj => by
      have e : (⟨gx, 0, none⟩ : Addr).add j = ⟨gx, j, none⟩ := by unfold Addr.add; split <;> simp_all
      rw [e, hy.cell j]; simpa using hj) (by simp [symL, Value.oneCell']) (by omega) (by omega)
  obtain rfl : g' = w.heap.size := by
    rcases hat with e | e
    · cases e
    · exact e
  refine wpList_plain hgd fun Kq hKq => ?_
  unfold Oper.wp execOp
  simp only [ho, resolve, invoke, builtin, Sem.run_bind, Sem.run_pure, Result.andThen_ok, List.map_toArray, List.map_cons, List.map_nil, hv, hx, hrun]
  exact hKq _ _ (h _ _ _ (by omega) B' hsz' (fun j hj => by have := hnew j (by omega); simpa using this) F)

theorem info_cfg : (Try.prog.info? 128).map (·.size) = some 8 := by kernel_rfl
theorem wpList_storeCfg {ops : Array Oper} {rest : List Oper} {o : Oper} {a : Act} {w : World} {Q : Exit → Act → World → Prop} (hgd : o.guard = none) (x y : Operand) (ho : o.op = .store 128 x y)
    (g : Nat) (old cs : Array Value) (hx : a.eval x = .pointer (some ⟨g, 0, none⟩)) (hy : a.eval y = .agg cs) (B : Blk w g 128 old) (h1 : old.size = 8) (h2 : cs.size = 8) (h3 : cs.all (·.oneCell') = true)
    (h : ∀ w', Blk w' g 128 cs → Fr [g] w w' → wpList Try.prog ops Q rest (a.put o.dst undef) w') : wpList Try.prog ops Q (o :: rest) a w :=
  wpList_store_row hgd _ x y ho g _ hx hy _ _ B (by rw [h2]; exact info_cfg) (by rw [h1, h2]) h3
    (h _ (setRow_heap w g _ _ _ _ B) ⟨rfl, rfl, rfl, by simp [World.setRow], fun k _ hk => setRow_other w g k _ (fun e => hk (by simp [e]))⟩)
/-- A plain configuration of one symbol. -/
def IsPlain (w : World) (W : World) (e : Ending) : Prop := ∃ g cap t new, e = .returned (.agg (cfgA (.slice (some ⟨g, 0, none⟩) 1 cap) t)) ∧ w.heap.size ≤ g ∧ 1 ≤ cap ∧ Blk W g 25 new ∧ new.size = cap * 16 ∧ ∀ j, j < 16 → new[j]? = symL[j]?
def PlainP (w : World) (e : Ending) (w' : World) : Prop := IsPlain w w' e ∧ Fr [] w w'

set_option maxHeartbeats 1000000 in
theorem plain_any (w : World) : Calls Try.prog 85 #[.int .i64 1] w (PlainP w) := by
  go_enter Try.func85, Try.ntmps85
  go_wp2_with fail
  refine wp_name (fun W0 hW => ?_)
  have B2 := Blk.box3 hW
  have B3 := Blk.box2 hW
  have B4 := Blk.box0 hW
  have F0 : Fr [] w W0 := Fr.eqv hW (by with_reducible repeat (first | exact Fr.refl _ _ | assumption | apply Fr.drew | apply Fr.drewN | apply Fr.alloc | (apply Fr.step; assumption; (intro _ h; (first | exact h | (focus (simp_all; done))))) | (apply Fr.setIn; (first | exact List.mem_cons_self | exact List.mem_cons_of_mem _ List.mem_cons_self | exact List.mem_cons_of_mem _ (List.mem_cons_of_mem _ List.mem_cons_self) | exact List.mem_cons_of_mem _ (List.mem_cons_of_mem _ (List.mem_cons_of_mem _ List.mem_cons_self)))) | (apply Fr.setNew; (first | omega | (simp; omega)))))
  simp only [World.size_alloc] at B3 B4
  have s0 : w.heap.size + 1 + 1 + 1 < W0.heap.size := B4.lt
  clear hW
  generalize (some { block := w.heap.size + 1 + 1, off := 0 } : Option Addr) = t at B4 ⊢
  go_loopw [5] (fun s5 wr => (s5 = .int .i64 0 ∧ wr = W0) ∨ (s5 = .int .i64 1 ∧ ∃ g cap new, w.heap.size ≤ g ∧ 1 ≤ cap ∧ Blk wr g 25 new ∧ new.size = cap * 16 ∧ (∀ j, j < 16 → new[j]? = symL[j]?) ∧ Fr [] w wr ∧ Blk wr (w.heap.size + 1 + 1 + 1) 128 (cfgA (.slice (some ⟨g, 0, none⟩) 1 cap) (.slice t 3 3)) ∧ (∃ old, Blk wr w.heap.size 128 old ∧ old.size = 8))) (fun s5 _ => 1 - (intOf s5).toNat)
  case atStart => exact .inl ⟨rfl, rfl⟩
  case round =>
    rcases hrel with ⟨rfl, rfl⟩ | ⟨rfl, g, cap, new, hg, hcap, hB, hsz, hnew, F, B4', old, B2', hold⟩
    · have c4 := B4.cell
      have hl16 : symL.length = 16 := rfl
      go_wp2_with (first
        | (refine wpList_loadSym rfl (.tmp 3) rfl (w.heap.size + 1) rfl symL.toArray B3 rfl ?_)
        | (refine wpList_appSym rfl (.tmp 20) (.tmp 22) rfl rfl wr.heap.size 1 rfl (Blk.new _ _ _) ?_
           intro w1 cap new hcap hB hsz hnew F1
           have HN := Lib.hid hnew
           have HZ := Lib.hid hsz
           have E4 := Blk.via F1 (by simp) (B4.alloc _)
           have E2 := Blk.via F1 (by simp) (B2.alloc _)
           have e4 := E4.cell
           have g4 := E4.frozen
           have k4 := E4.lt
           clear c4 hnew hsz))
      have s1 := F0.size
      rw [World.size_alloc] at hB
      have F1' : Fr [] w w1 := (F0.alloc _).trans F1
      go_roundw
      case rel =>
        refine .inr ⟨rfl, wr.heap.size + 1, cap, new, by omega, hcap, hB.off (by omega), HZ.out, HN.out, Fr.setNew (by omega) F1', (E4.same 0 _).cast rfl, _, E2.off (by omega), rfl⟩
      case measure => simp [intOf]
    · have c4 := B4'.cell
      have c2 := B2'.cell
      have f2 := B2'.frozen
      have l2 := B2'.lt
      have HN := Lib.hid hnew
      have HZ := Lib.hid hsz
      clear hnew hsz
      go_wp2_with (refine wpList_storeCfg rfl (.tmp 2) (.tmp 25) rfl w.heap.size old _ rfl rfl B2' hold rfl (by simp [Value.oneCell']) ?_
                   intro w5 B5 F5)
      exact bodyPost_ret (results_cell_row rfl _ _ w.heap.size _ _ (0, 0) _ rfl B5 Try.underlying128 rfl info_cfg) rfl ⟨⟨g, cap, _, new, rfl, hg, hcap, Blk.via F5 (by simpa using hB.ne B2' (by decide)) hB, HZ.out, HN.out⟩, fr_new2 (Nat.le_refl _) F F5⟩

theorem newI_bad : newI 5 3 false 0 1 0 0 0 0 2 0 1 0 = 10 := by decide +kernel
theorem newI_ok : newI 5 2 false 0 1 0 0 0 0 2 0 1 0 = 0 := by decide +kernel
theorem wpList_storeSym {ops : Array Oper} {rest : List Oper} {o : Oper} {a : Act} {w : World} {Q : Exit → Act → World → Prop} (hgd : o.guard = none) (x y : Operand) (ho : o.op = .store 25 x y)
    (g : Nat) (old cs : Array Value) (hx : a.eval x = .pointer (some ⟨g, 0, none⟩)) (hy : a.eval y = .agg cs) (B : Blk w g 25 old) (h1 : old.size = 16) (h2 : cs.size = 16) (h3 : cs.all (·.oneCell') = true)
    (h : ∀ w', Blk w' g 25 cs → Fr [g] w w' → wpList Try.prog ops Q rest (a.put o.dst undef) w') : wpList Try.prog ops Q (o :: rest) a w :=
  wpList_store_row hgd _ x y ho g _ hx hy _ _ B (by rw [h2]; exact info_sym) (by rw [h1, h2]) h3
    (h _ (setRow_heap w g _ _ _ _ B) ⟨rfl, rfl, rfl, by simp [World.setRow], fun k _ hk => setRow_other w g k _ (fun e => hk (by simp [e]))⟩)
theorem wpList_loadSymG {ops : Array Oper} {rest : List Oper} {o : Oper} {a : Act} {w : World} {Q : Exit → Act → World → Prop} (hw : Region.wanted o (yielded ops a.tmps) = true) (x : Operand) (ho : o.op = .load 25 x)
    (g : Nat) (hx : a.eval x = .pointer (some ⟨g, 0, none⟩)) (cs : Array Value) (B : Blk w g 25 cs) (hs : cs.size = 16) (h : wpList Try.prog ops Q rest (a.put o.dst (.agg cs)) w) : wpList Try.prog ops Q (o :: rest) a w :=
  Go.BigFrame.wpList_want hw fun _ hK => wp_load_row _ x ho g hx _ _ (0, 0) _ B Try.underlying25 rfl (by rw [hs]; exact info_sym) (hK _ _ h)
theorem symA : ∃ cs : Array Value, cs = symL.toArray ∧ IsSym cs 5 ∧ cs.size = 16 ∧ cs.all (·.oneCell') = true := ⟨_, rfl, ⟨rfl, rfl⟩, rfl, by decide +kernel⟩

set_option maxHeartbeats 1000000 in
theorem admAlive_any (w : World) : Calls Try.prog 44 #[] w fun e w' => e = .returned (.bool true) ∧ Fr [] w w' := by
  go_enter Try.func44, Try.ntmps44
  go_wp2_with fail
  refine (plain_any w).mono ?_
  rintro e w1 ⟨⟨g, cap, t, new, rfl, hg, hcap, B, hsz, hnew⟩, F1⟩
  have hc : ∀ j v, symL[j]? = some v → w1.cell? ⟨g, 0 + j, none⟩ = some v := fun j v hj => by
    have hl := (List.getElem?_eq_some_iff.1 hj).1
    rw [Nat.zero_add, B.cell, hnew j hl, hj]
  obtain ⟨cs, hcs, hsym, hsz16, hone⟩ := symA
  have hi : (Try.prog.info? 25).map (·.size) = some symL.length := info_sym
  have HC : Hid (∀ (ops : Array Oper) (rest : List Oper) (o : Oper) (a : Act) (Q : Exit → Act → World → Prop) (x : Operand), o.guard = none → o.op = .load 25 x → a.eval x = .pointer (some ⟨g, 0, none⟩) → wpList Try.prog ops Q rest (a.put o.dst (.agg cs)) w1 → wpList Try.prog ops Q (o :: rest) a w1) := by
    refine Lib.hid ?_
    intro ops rest o a Q x h1 h2 h3 h
    rw [hcs] at h
    exact wpList_loadAt h1 _ x h2 g 0 h3 symL _ hc Try.underlying25 rfl hi h
  have i0 : 0 < cap := by omega
  have HS := Lib.hid hsym
  have Hone := Lib.hid hone
  clear hc hnew hsz B hi hcs hsym hone
  unfold cfgA
  have hfd : ∀ w : World, (Instr.field 128 (.agg #[.slice (some ⟨g, 0, none⟩) 1 cap, t, .int .i64 10000, .int .i64 700, .int .i64 1300, .int .i64 2000, .int .i64 15, .int .i64 30]) 0).run Try.prog w = .ok (.slice (some ⟨g, 0, none⟩) 1 cap) w := fun _ => by kernel_rfl
  go_wp2_with (first
    | ((with_reducible refine HC.out _ _ _ _ _ (.tmp 5) ?_ ?_ ?_ ?_)
       exact rfl
       exact rfl
       exact rfl)
    | (refine wpList_storeSym rfl (.tmp 1) (.tmp 6) rfl w1.heap.size _ cs rfl rfl (Blk.new _ _ _) rfl hsz16 Hone.out ?_
       intro w2 B2 F2
       have l2 := B2.lt)
    | (refine wpList_loadSym rfl (.tmp 1) rfl w1.heap.size rfl cs (B2.alloc _) hsz16 ?_))
  refine (new_any' _ cs 5 HS.out (by unfold In64; omega) 3 false 0 1 0 0 0 0 2 0 1 0 (by unfold In64; omega)).mono ?_
  rw [newI_bad]
  rintro e w3 ⟨rfl, F3⟩
  have B3 := Blk.via F3 (by simp) (B2.alloc _)
  have Bc := Blk.via F3 (by simp) (Blk.new _ _ _)
  have q3 := Bc.cell
  have FF : Fr [] w w3 := by
    have Fa : Fr [] w w2 := F1.trans (fr_new2 (Nat.le_refl _) ((Fr.refl _ _).alloc _) F2)
    exact (Fa.alloc _).trans F3
  clear F1 F2 F3 hg hcap i0 HC Bc B2
  go_wp2_with (refine wpList_loadSymG (by rfl) (.tmp 1) rfl w1.heap.size rfl cs B3 hsz16 ?_)
  refine (new_any' _ cs 5 HS.out (by unfold In64; omega) 2 false 0 1 0 0 0 0 2 0 1 0 (by unfold In64; omega)).mono ?_
  rw [newI_ok]
  rintro e w4 ⟨rfl, F4⟩
  have FG := FF.trans F4
  clear F4 FF q3 B3
  go_wp2_with fail
  refine (matches_any _ 2).mono ?_
  rintro e w5 ⟨rfl, rfl⟩
  go_wp2_with fail
  refine (rests_any _ 3).mono ?_
  rintro e w5 ⟨rfl, rfl⟩
  go_wp2_with fail
  go_ret
  exact ⟨by rfl, FG⟩
end Go.Proofs.Ytgddmkgmpibpgaa
