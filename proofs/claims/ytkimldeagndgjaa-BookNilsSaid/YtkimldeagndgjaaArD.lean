/- The arena of slots: Take, Get, Set, Drop, walked. -/
import Derived.Test.YtkimldeagndgjaaArC
import Derived.Outline
namespace Go.Proofs.Ytkimldeagndgjaa
set_option linter.unusedVariables false
set_option linter.unusedSimpArgs false
open Go.RowKit

theorem info_slot : (Try.prog.info? 192).map (·.size) = some 8 := by kernel_rfl
theorem info_ord : (Try.prog.info? 43).map (·.size) = some 7 := by kernel_rfl

theorem wpList_storeSlot {ops : Array Oper} {rest : List Oper} {p : Oper} {a : Act} {w : World} {Q : Exit → Act → World → Prop} (hgd : p.guard = none) (x y : Operand) (hp : p.op = .store 192 x y) {ba n : Nat} {ord : Nat → Ord} {nx : Nat → Int} {s fr u : Int} (o : Ord) (v : Int)
    (hx : a.eval x = .pointer (some ⟨ba, n * 8, none⟩)) (hy : a.eval y = .agg #[.int .i64 o.id, .int .i64 o.ow, .int .i64 o.sd, .int .i64 o.pr, .int .i64 o.qt, .int .i64 o.fl, .int .i64 o.sq, .int .i64 v]) (hb : BlkA w ba ord nx s fr u) (hn : n < 500)
    (h : ∀ w', BlkA w' ba (updO ord n o) (updO nx n v) s fr u → Fr [ba] w w' → wpList Try.prog ops Q rest (a.put p.dst undef) w') : wpList Try.prog ops Q (p :: rest) a w :=
  wpList_store_mid hgd _ x y hp ba (n * 8) _ hx hy (hb.there hn (by simp)) info_slot (by simp [Value.oneCell']) (h _ (hb.setSlot hn o v) (fr_setCells ba (.inl (by simp)) _ _ _ (Fr.refl _ _)))
theorem wpList_storeOrd {ops : Array Oper} {rest : List Oper} {p : Oper} {a : Act} {w : World} {Q : Exit → Act → World → Prop} (hgd : p.guard = none) (x y : Operand) (hp : p.op = .store 43 x y) {ba n : Nat} {ord : Nat → Ord} {nx : Nat → Int} {s fr u : Int} (o : Ord)
    (hx : a.eval x = .pointer (some ⟨ba, n * 8, none⟩)) (hy : a.eval y = .agg o.a) (hb : BlkA w ba ord nx s fr u) (hn : n < 500)
    (h : ∀ w', BlkA w' ba (updO ord n o) nx s fr u → Fr [ba] w w' → wpList Try.prog ops Q rest (a.put p.dst undef) w') : wpList Try.prog ops Q (p :: rest) a w :=
  wpList_store_mid hgd _ x y hp ba (n * 8) _ hx hy (hb.there hn (by simp)) info_ord (by simp [Value.oneCell']) (h _ (hb.setOrder hn o) (fr_setCells ba (.inl (by simp)) _ _ _ (Fr.refl _ _)))
theorem wpList_loadOrd {ops : Array Oper} {rest : List Oper} {p : Oper} {a : Act} {w : World} {Q : Exit → Act → World → Prop} (hgd : p.guard = none) (x : Operand) (hp : p.op = .load 43 x) {ba n : Nat} {ord : Nat → Ord} {nx : Nat → Int} {s fr u : Int} (o : Ord)
    (hx : a.eval x = .pointer (some ⟨ba, n * 8, none⟩)) (hb : BlkA w ba ord nx s fr u) (hn : n < 500) (ho : ord n = o)
    (h : wpList Try.prog ops Q rest (a.put p.dst (.agg o.a)) w) : wpList Try.prog ops Q (p :: rest) a w :=
  wpList_load_mid hgd _ x hp ba (n * 8) hx o.l _ (ho ▸ hb.order hn) Try.underlying43 rfl info_ord h
theorem arTake_full (w : World) (ba N : Nat) (m : Nat → Option Ord) (h : ArI w ba N [] m) (o : Ord) :
    Calls Try.prog 86 #[.pointer (some ⟨ba, 0, none⟩), .agg o.a] w fun e w' => e = .returned (.tuple #[.int .i64 0, .int .i64 7]) ∧ Fr [] w w' := by
  obtain ⟨ord, nx, hb, _⟩ := h.b
  have q1 : (w.alloc (.cells o.a 43)).cell? ⟨ba, 4001, none⟩ = some (.int .i64 (-1)) := BlkA.free (hb.alloc _)
  go_enter Try.func86, Try.ntmps86
  go_wp2_with fail
  go_ret2
  exact ⟨rfl, by with_reducible repeat (first | exact Fr.refl _ _ | assumption | apply Fr.drew | apply Fr.drewN | apply Fr.alloc | (apply Fr.step; assumption; (intro _ h; (first | exact h | (focus (simp_all; done))))) | (apply Fr.setIn; (first | exact List.mem_cons_self | exact List.mem_cons_of_mem _ List.mem_cons_self | exact List.mem_cons_of_mem _ (List.mem_cons_of_mem _ List.mem_cons_self) | exact List.mem_cons_of_mem _ (List.mem_cons_of_mem _ (List.mem_cons_of_mem _ List.mem_cons_self)))) | (apply Fr.setNew; (first | omega | (simp; omega))))⟩

set_option maxRecDepth 20000 in
set_option maxHeartbeats 1000000 in
theorem arTake_any (w : World) (ba N n : Nat) (fl : List Nat) (m : Nat → Option Ord) (h : ArI w ba N (n :: fl) m) (o : Ord) :
    Calls Try.prog 86 #[.pointer (some ⟨ba, 0, none⟩), .agg o.a] w fun e w' => e = .returned (.tuple #[.int .i64 n, .int .i64 0]) ∧ Fr [ba] w w' ∧ ArI w' ba N fl (updO m n (some o)) ∧ n < N ∧ m n = none := by
  obtain ⟨ord, nx, hb, hch, hm, hf⟩ := h.b
  obtain ⟨hn1, hn2⟩ := (h.mem n).1 (by simp)
  obtain ⟨hnd1, hnd2⟩ := List.nodup_cons.1 h.nd
  have hN2 := h.N2
  have hlen := h.len
  simp only [List.length_cons] at hlen
  have hx : nx n = hdI fl := hch.1
  have i0 : (0 : Int) ≤ (n : Int) := by omega
  have i1 : n < 500 := by omega
  have i2 : (n : Int) < 500 := by omega
  have hne : ((n : Int) == -1) = false := by simp <;> omega
  have hwr : IntKind.i64.wrap ((N : Int) - ((fl.length : Int) + 1) + 1) = (N : Int) - fl.length := by rw [IntWalk.i64_in _ (by omega)]; omega
  have HM := Lib.hid hm
  have HF := Lib.hid hf
  have HC := Lib.hid hch.2
  clear hm hf hch
  have B1 : Blk (w.alloc (.cells o.a 43)) w.heap.size 43 o.a := Blk.new _ _ _
  have F0 : Fr [] w (w.alloc (.cells o.a 43)) := (Fr.refl _ _).alloc _
  have hb0 : BlkA (w.alloc (.cells o.a 43)) ba ord nx N n ((N : Int) - (fl.length + 1)) := (hb.alloc _).cast (by simp [hdI])
  have nb : ba ≠ w.heap.size := hb0.ne B1 (by decide)
  have q1 := hb0.free
  have q2 := hb0.next i1
  rw [hx] at q2
  have f1 := hb0.frozen 4001
  have l1 := hb.lt
  go_enter Try.func86, Try.ntmps86
  go_wp2_with fail
  refine wp_name (fun W1 hW => ?_)
  have B11 := Blk.box0 hW
  have hb1 : BlkA W1 ba ord nx N (hdI fl) ((N : Int) - (fl.length + 1)) := Blk.eqv hW (((hb.setFree (hdI fl)).alloc _).cast (by simp))
  have F1 : Fr [ba] w W1 := Fr.eqv hW (by with_reducible repeat (first | exact Fr.refl _ _ | assumption | apply Fr.drew | apply Fr.drewN | apply Fr.alloc | (apply Fr.step; assumption; (intro _ h; (first | exact h | (focus (simp_all; done))))) | (apply Fr.setIn; (first | exact List.mem_cons_self | exact List.mem_cons_of_mem _ List.mem_cons_self | exact List.mem_cons_of_mem _ (List.mem_cons_of_mem _ List.mem_cons_self) | exact List.mem_cons_of_mem _ (List.mem_cons_of_mem _ (List.mem_cons_of_mem _ List.mem_cons_self)))) | (apply Fr.setNew; (first | omega | (simp; omega)))))
  simp only [World.size_setCell] at B11
  clear hW
  clear q1 q2 f1 l1 hb0 hb B1 F0 hx
  refine u_region (S := fun w' => ∀ i, w'.cell? ⟨w.heap.size, i, none⟩ = (o.a)[i]?) 7 (by kernel_rfl) (by kernel_rfl) (by kernel_rfl) (by kernel_rfl) (by kernel_rfl) (fun i => B11.drew.cell i) ?_
  (refine u_take 0 (v := ?_) rfl rfl (by kernel_rfl) (by kernel_rfl) (fun _ _ _ h => h) (Or.inl ⟨by rfl, ?_⟩) ?_; rotate_left; (focus (intro wz hSw; (try dsimp only at hSw); go_simp; (try with_reducible rfl))); (try simp only [Act.put, List.getElem_toArray, List.getElem_cons_succ, List.getElem_cons_zero, List.setIfInBounds_toArray, List.set_cons_zero, List.set_cons_succ]))
  (refine u_take 1 (v := ?_) rfl rfl (by kernel_rfl) (by kernel_rfl) (fun _ _ _ h => h) (Or.inl ⟨by rfl, ?_⟩) ?_; rotate_left; (focus (intro wz hSw; (try dsimp only at hSw); go_simp; (try with_reducible rfl))); (try simp only [Act.put, List.getElem_toArray, List.getElem_cons_succ, List.getElem_cons_zero, List.setIfInBounds_toArray, List.set_cons_zero, List.set_cons_succ]))
  (refine u_take 2 (v := ?_) rfl rfl (by kernel_rfl) (by kernel_rfl) (fun _ _ _ h => h) (Or.inl ⟨by rfl, ?_⟩) ?_; rotate_left; (focus (intro wz hSw; (try dsimp only at hSw); go_simp; (try with_reducible rfl))); (try simp only [Act.put, List.getElem_toArray, List.getElem_cons_succ, List.getElem_cons_zero, List.setIfInBounds_toArray, List.set_cons_zero, List.set_cons_succ]))
  (refine u_take 3 (v := ?_) rfl rfl (by kernel_rfl) (by kernel_rfl) (fun _ _ _ h => h) (Or.inl ⟨by rfl, ?_⟩) ?_; rotate_left; (focus (intro wz hSw; (try dsimp only at hSw); go_simp; (try with_reducible rfl))); (try simp only [Act.put, List.getElem_toArray, List.getElem_cons_succ, List.getElem_cons_zero, List.setIfInBounds_toArray, List.set_cons_zero, List.set_cons_succ]))
  (refine u_take 4 (v := ?_) rfl rfl (by kernel_rfl) (by kernel_rfl) (fun _ _ _ h => h) (Or.inl ⟨by rfl, ?_⟩) ?_; rotate_left; (focus (intro wz hSw; (try dsimp only at hSw); go_simp; (try with_reducible rfl))); (try simp only [Act.put, List.getElem_toArray, List.getElem_cons_succ, List.getElem_cons_zero, List.setIfInBounds_toArray, List.set_cons_zero, List.set_cons_succ]))
  (refine u_take 5 (v := ?_) rfl rfl (by kernel_rfl) (by kernel_rfl) (fun _ _ _ h => h) (Or.inl ⟨by rfl, ?_⟩) ?_; rotate_left; (focus (intro wz hSw; (try dsimp only at hSw); go_simp; (try with_reducible rfl))); (try simp only [Act.put, List.getElem_toArray, List.getElem_cons_succ, List.getElem_cons_zero, List.setIfInBounds_toArray, List.set_cons_zero, List.set_cons_succ]))
  (refine u_take 6 (v := ?_) rfl rfl (by kernel_rfl) (by kernel_rfl) (fun _ _ _ h => h) (Or.inl ⟨by rfl, ?_⟩) ?_; rotate_left; (focus (intro wz hSw; (try dsimp only at hSw); go_simp; (try with_reducible rfl))); (try simp only [Act.put, List.getElem_toArray, List.getElem_cons_succ, List.getElem_cons_zero, List.setIfInBounds_toArray, List.set_cons_zero, List.set_cons_succ]))
  refine u_last (by kernel_rfl) rfl (by kernel_rfl) ?_
  refine wpList_storeSlot rfl (.tmp 36) (.tmp 33) rfl o (-2) rfl rfl hb1.drew i1 ?_
  intro W2 hb2 F2
  have F2 : Fr [ba] w W2 := F1.drew.trans F2
  clear hb1 B11 F1
  have q1 := hb2.used
  have f1 := hb2.frozen 4002
  have l1 := hb2.lt
  refine wpList_nil ?_
  go_wp2_with fail
  go_ret2
  refine ⟨rfl, F2.setIn (by simp), ⟨⟨_, _, (hb2.setUsed ((N : Int) - fl.length)), ?_, ?_, ?_⟩, hnd2, ?_, ?_, h.N1, h.N2, by omega⟩, hn1, hn2⟩
  · exact ChainA.upd hnd1 HC.out
  · intro j p hj
    by_cases e : j = n
    · subst e
      rw [updO_same] at hj; injection hj with hj
      exact ⟨by rw [updO_same, hj], updO_same _ _ _⟩
    · rw [updO_ne e] at hj
      rw [updO_ne e, updO_ne e]; exact HM.out j p hj
  · intro j hj
    have e : j ≠ n := fun e => hnd1 (e ▸ hj)
    rw [updO_ne e]; exact HF.out j (by simp [hj])
  · intro j
    have := h.mem j
    by_cases e : j = n
    · subst e
      simp [updO_same, hnd1]
    · rw [updO_ne e, ← this]; simp [e]
  · intro j hj
    rw [updO_ne (by omega)]; exact h.out j hj
end Go.Proofs.Ytkimldeagndgjaa
