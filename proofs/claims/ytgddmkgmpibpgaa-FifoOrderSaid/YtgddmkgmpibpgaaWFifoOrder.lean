/- The law FifoOrder, walked. -/
import Derived.Test.YtgddmkgmpibpgaaFifoH
import Derived.Test.YtgddmkgmpibpgaaRow
namespace Go.Proofs.Ytgddmkgmpibpgaa
set_option linter.unusedVariables false
set_option linter.unusedSimpArgs false
open Go.RowKit

theorem fr_freshO {S : List Nat} {a b c : World} (k : Fr S b c) (hS : ∀ x ∈ S, a.heap.size ≤ x) (h : Fr [] a b) : Fr [] a c :=
  ⟨k.os.trans h.os, k.tape.trans h.tape, k.output.trans h.output, Nat.le_trans h.size k.size, fun i hi hn => (k.block i (Nat.lt_of_lt_of_le hi h.size) (fun hx => by have := hS i hx; omega)).trans (h.block i hi hn)⟩

/-- append onto a row of ints that the call made, in a plain region. -/
theorem wpList_appO {w w0 : World} {ops : Array Oper} {rest : List Oper} {o : Oper} {a : Act} {Q : Exit → Act → World → Prop} (hgd : o.guard = none) (s x : Operand)
    (ho : o.op = .call { callee := .builtin .append, args := #[s, x], argTypes := #[53, 53] })
    (v : Value) (n : Nat) (xs : List Nat) (hv : a.eval s = v) (hown : w.ownsRow w0.heap.size 3 1 v n (nums xs))
    (A : Option Addr) (m c : Nat) (news : List Nat) (hx : a.eval x = .slice A m c) (hl : news.length = m) (hs : Src w A (nums news))
    (h63 : n + m ≤ 1000000) (hsz : w0.heap.size ≤ w.heap.size)
    (h : ∀ v' w', w'.ownsRow w0.heap.size 3 1 v' (n + m) (nums (xs ++ news)) → Fr v.ownBlock.toList w w' → wpList Try.prog ops Q rest (a.put o.dst v') w') :
    wpList Try.prog ops Q (o :: rest) a w := by
  obtain ⟨ii, hii, hz0, hz1, hz2⟩ := info_parts info_int
  refine wpList_app w hgd s x _ ho w0.heap.size 3 ii _ 8 Try.underlying53 hii hz0 hz1 hz2 rfl v n (nums xs) hv hown A m c (nums news) hx (by rw [nums_length]; exact hl) hs (nums_one _) h63 (by omega) hsz (fun v' w' h1 h2 h3 => h v' w' ?_ ?_)
  · simpa [nums] using h1
  · exact ⟨h2.os, h2.tape, h2.output, h2.size, fun k hk hn => h2.block k hk (fun e => hn (by rw [← e]; simp))⟩

theorem info_bool : (Try.prog.info? 4).map (fun i => (i.zero, i.size, i.bytes)) = some (some (.bool false), 1, 1) := by kernel_rfl
def updB (f : Nat → Bool) (x : Nat) (b : Bool) : Nat → Bool := fun j => if j = x then b else f j

theorem AbsQ.congr {w : World} {bq bn be N K : Nat} {L L' : Nat → List Nat} (h : AbsQ w bq bn be N K L) (e : ∀ i, i < K → L i = L' i) : AbsQ w bq bn be N K L' := by
  obtain ⟨nd, en, r, v⟩ := h
  exact ⟨nd, en, r, fun i hi => by rw [← e i hi]; exact v.een i hi, fun i hi A x B hs => v.lnk i hi A x B (by rw [e i hi]; exact hs),
    fun x hx hf => v.free x hx (fun i hi => by rw [e i hi]; exact hf i hi), fun i hi => by rw [← e i hi]; exact v.nodup i hi⟩

theorem filter_out {want X Y : List Nat} {f : Nat → Bool} {x : Nat} (hn : want.Nodup) (h : want.filter f = X ++ x :: Y) : X ++ Y = want.filter (updB f x false) := by
  have e : want.filter (updB f x false) = (want.filter f).filter (fun y => y != x) := by
    rw [List.filter_filter]
    refine List.filter_congr fun y _ => ?_
    by_cases c : y = x <;> simp [updB, c]
  have hd : (X ++ x :: Y).Nodup := h ▸ hn.filter _
  obtain ⟨_, h2, h3⟩ := List.nodup_append.1 hd
  obtain ⟨h4, _⟩ := List.nodup_cons.1 h2
  rw [e, h, List.filter_append, List.filter_cons]
  have ex : X.filter (fun y => y != x) = X := List.filter_eq_self.2 fun y hy => by simpa using h3 y hy x (by simp)
  have ey : Y.filter (fun y => y != x) = Y := List.filter_eq_self.2 fun y hy => by
    simp only [bne_iff_ne]
    rintro rfl
    exact h4 hy
  simp [ex, ey]
theorem filter_same {want : List Nat} {f : Nat → Bool} {x : Nat} (h : f x = false) : want.filter (updB f x false) = want.filter f := by
  refine List.filter_congr fun y _ => ?_
  by_cases c : y = x
  · subst c; simp [updB, h]
  · simp [updB, c]

/-- What the first two loops keep. -/
structure OrdS (w W : World) (bq bn be bi : Nat) (L : Nat → List Nat) (inn : Nat → Bool) (want : List Nat) (v : Value) : Prop where
  fr : Fr [] w W
  q : AbsQ W bq bn be 20 1 L
  b : Blk W bi 4 (row1 20 (fun j => .bool (inn j)))
  own : W.ownsRow w.heap.size 3 1 v want.length (nums want)

theorem OrdS.q_turns {w W W' : World} {bq bn be bi : Nat} {L L' : Nat → List Nat} {inn : Nat → Bool} {want : List Nat} {v : Value} (h : OrdS w W bq bn be bi L inn want v) (hS : w.heap.size ≤ bn ∧ w.heap.size ≤ be) (F : Fr [bn, be] W W') (q : AbsQ W' bq bn be 20 1 L') : OrdS w W' bq bn be bi L' inn want v := by
  obtain ⟨nd, en, r, x⟩ := h.q
  refine ⟨fr_freshO F (by simp; omega) h.fr, q, Blk.via F ?_ h.b, own_via F ?_ h.own⟩
  · simpa using ⟨h.b.ne r.n (by decide), h.b.ne r.e (by decide)⟩
  · intro g hg
    simpa using ⟨own_off h.own r.n (by decide) g hg, own_off h.own r.e (by decide) g hg⟩
theorem OrdS.b_turns {w W : World} {bq bn be bi : Nat} {L : Nat → List Nat} {inn : Nat → Bool} {want : List Nat} {v : Value} (h : OrdS w W bq bn be bi L inn want v) (hS : w.heap.size ≤ bi) (x : Nat) (b : Bool) : OrdS w (W.setCell ⟨bi, x, none⟩ (.bool b)) bq bn be bi L (updB inn x b) want v := by
  have F : Fr [bi] W (W.setCell ⟨bi, x, none⟩ (.bool b)) := Fr.setIn List.mem_cons_self (Fr.refl _ _)
  obtain ⟨nd, en, r, y⟩ := id h.q
  refine ⟨fr_freshO F (by simp; omega) h.fr, h.q.fr F ?_ ?_ ?_, h.b.rput.cast (row1_congr ?_), own_via F ?_ h.own⟩
  · simpa using r.q.ne h.b (by decide)
  · simpa using r.n.ne h.b (by decide)
  · simpa using r.e.ne h.b (by decide)
  · intro i _
    by_cases c : i = x <;> simp [updB, c]
  · intro g hg
    simpa using own_off h.own h.b (by decide) g hg
theorem OrdS.stays {w W W' : World} {bq bn be bi : Nat} {L : Nat → List Nat} {inn : Nat → Bool} {want : List Nat} {v : Value} (h : OrdS w W bq bn be bi L inn want v) (F : Fr [] W W') : OrdS w W' bq bn be bi L inn want v :=
  ⟨h.fr.trans F, h.q.fr F (by simp) (by simp) (by simp), Blk.via F (by simp) h.b, own_via F (by simp) h.own⟩
theorem OrdS.w_turns {w W W' : World} {bq bn be bi : Nat} {L : Nat → List Nat} {inn : Nat → Bool} {want want' : List Nat} {v v' : Value} (h : OrdS w W bq bn be bi L inn want v) (F : Fr v.ownBlock.toList W W') (ho : W'.ownsRow w.heap.size 3 1 v' want'.length (nums want')) : OrdS w W' bq bn be bi L inn want' v' := by
  obtain ⟨nd, en, r, y⟩ := id h.q
  have hne : ∀ {g t} {cs : Array Value}, Blk W g t cs → 3 ≠ t → g ∉ v.ownBlock.toList := by
    intro g t cs B hne hg
    have : v.ownBlock = some g := by simpa using hg
    exact own_off h.own B hne g this rfl
  refine ⟨fr_freshO F ?_ h.fr, h.q.fr F (hne r.q (by decide)) (hne r.n (by decide)) (hne r.e (by decide)), Blk.via F (hne h.b (by decide)) h.b, ho⟩
  intro x hx
  exact own_ge h.own x (by simpa using hx)
set_option maxHeartbeats 4000000 in
set_option maxRecDepth 10000 in
theorem fifoOrder_walk (w : World) (A0 : Option Addr) (n0 c0 : Nat) (F0 : Nat → Nat → Int) (A1 : Option Addr) (n1 c1 : Nat) (F1 : Nat → Nat → Int) (w0 : IntRow w A0 n0 1 F0) (m0 : n0 ≤ maxLen) (w1 : IntRow w A1 n1 1 F1) (m1 : n1 ≤ maxLen) :
    Calls Try.prog 6 #[.slice A0 n0 c0, .slice A1 n1 c1] w fun e w' => e = .returned (.bool true) ∧ Below w.heap.size w w' := by
  have hm0 : n0 ≤ 9223372036854775807 := by simp only [maxLen] at m0; omega
  have hm0' : (n0 : Int) ≤ 9223372036854775807 := by omega
  have hm1 : n1 ≤ 9223372036854775807 := by simp only [maxLen] at m1; omega
  have hm1' : (n1 : Int) ≤ 9223372036854775807 := by omega
  have W0 := Lib.hid w0
  have W1 := Lib.hid w1
  clear w0 m0 w1 m1
  obtain ⟨ib, hi, hz0, hz1, hz2⟩ := info_parts info_bool
  have mk : ∀ w, (Instr.makeSlice 58 (.int .i64 20) (.int .i64 20)).run Try.prog w = .ok (.slice (some ⟨w.heap.size, 0, none⟩) 20 20) (w.alloc (.cells (row1 20 (fun _ => .bool false)) 4)) :=
    fun w => run_makeRow1 (P := Try.prog) Try.underlying58 hi hz0 hz1 rfl 20 (by rw [hz2]; omega) (by omega) w
  clear hi hz0 hz1 hz2
  by_cases hlen : 60 < n0 ∨ 60 < n1
  · have tt : (60 : Int) < (n0 : Int) ∨ (¬ (60 : Int) < (n0 : Int) ∧ (60 : Int) < (n1 : Int)) := by omega
    clear hlen mk ib
    rcases tt with t1 | ⟨t1, t2⟩
    all_goals
      go_enter Try.func6, Try.ntmps6
      go_wp2_with fail
      refine (new_yes _ 20 1 (by omega) (by omega) (by omega) (by omega)).mono ?_
      rintro e w2 ⟨bq, bn, be, g1, g2, g3, rfl, G1, q1⟩
      go_wp2_with fail
      refine (fifoAlive_any _).mono ?_
      rintro e w3 ⟨rfl, hf⟩
      go_wp2_with fail
      go_ret
      exact ⟨rfl, (G1.trans hf).toBelow⟩
  · have t1 : ¬ (60 : Int) < (n0 : Int) := by omega
    have t2 : ¬ (60 : Int) < (n1 : Int) := by omega
    clear hlen ib
    go_enter Try.func6, Try.ntmps6
    go_wp2_with fail
    refine (new_yes _ 20 1 (by omega) (by omega) (by omega) (by omega)).mono ?_
    rintro e w2 ⟨bq, bn, be, g1, g2, g3, rfl, G1, q1⟩
    go_wp2_with fail
    have hS : w.heap.size ≤ bn ∧ w.heap.size ≤ be := ⟨g2, g3⟩
    have hB : w.heap.size ≤ w2.heap.size := G1.size
    have O2 : OrdS w (w2.alloc (.cells (row1 20 (fun _ => .bool false)) 4)) bq bn be w2.heap.size (fun _ => []) (fun _ => false) [] (.slice none 0 0) :=
      ⟨by with_reducible repeat (first | exact Fr.refl _ _ | assumption | apply Fr.drew | apply Fr.drewN | apply Fr.alloc | (apply Fr.step; assumption; (intro _ h; (first | exact h | (focus (simp_all; done))))) | (apply Fr.setIn; (first | exact List.mem_cons_self | exact List.mem_cons_of_mem _ List.mem_cons_self | exact List.mem_cons_of_mem _ (List.mem_cons_of_mem _ List.mem_cons_self) | exact List.mem_cons_of_mem _ (List.mem_cons_of_mem _ (List.mem_cons_of_mem _ List.mem_cons_self)))) | (apply Fr.setNew; (first | omega | (simp; omega)))), q1.fr (Fr.alloc (Fr.refl [] _) _) (by simp) (by simp) (by simp), Blk.new _ _ _, rfl, .inl ⟨rfl, rfl⟩⟩
    obtain ⟨bi, hbi⟩ : ∃ bi, bi = w2.heap.size := ⟨_, rfl⟩
    rw [← hbi] at O2 hB ⊢
    clear hbi
    clear q1 G1 mk
    go_loopw [8, 9] (fun s8 s9 wr => ∃ k : Nat, k ≤ n0 ∧ s9 = .int .i64 k ∧ ∃ v want inn, v = s8 ∧ OrdS w wr bq bn be bi (fun _ => want) inn want v ∧ (∀ x, x < 20 → (inn x = true ↔ x ∈ want)) ∧ (∀ x ∈ want, x < 20) ∧ want.Nodup ∧ want.length ≤ k) (fun _ s9 _ => n0 - (intOf s9).toNat)
    case atStart => exact ⟨0, by omega, rfl, _, [], fun _ => false, rfl, O2, fun x _ => (by simp), fun x hx => (by cases hx), List.nodup_nil, Nat.le_refl _⟩
    case round =>
      obtain ⟨k, hk, rfl, v8, want, inn, rfl, O, hin, h20, hnd, hwl⟩ := hrel
      by_cases hlt : k < n0
      · have i0 : (0 : Int) ≤ (k : Int) := by omega
        have i1 : (k : Int) < (n0 : Int) := by omega
        obtain ⟨ab, ao, rfl, hab, hcell⟩ := W0.out.2 (by omega)
        have x0 : wr.cell? ⟨ab, ao + k, none⟩ = some (.int .i64 (F0 k 0)) := by simpa using (O.fr.cell ab _ hab).trans (hcell k 0 hlt (by omega))
        generalize F0 k 0 = z at x0
        clear hcell
        by_cases hz : z < 0 ∨ 19 < z
        · rcases (show z < 0 ∨ (¬ z < 0 ∧ 19 < z) by omega) with z1 | ⟨z1, z2⟩
          all_goals
            go_wp2_with fail
            refine (fifoAlive_any _).mono ?_
            rintro e w3 ⟨rfl, hf⟩
            go_wp2_with fail
            go_ret
            exact ⟨rfl, (O.fr.trans hf).toBelow⟩
        · obtain ⟨x, rfl⟩ := Int.eq_ofNat_of_zero_le (show 0 ≤ z by omega)
          have hx : x < 20 := by omega
          have z1 : ¬ (x : Int) < 0 := by omega
          have z2 : ¬ (19 : Int) < (x : Int) := by omega
          have z3 : (0 : Int) ≤ (x : Int) := by omega
          have z4 : (x : Int) < 20 := by omega
          have xb := O.b.rat hx
          clear hz
          have hSof : ∀ W' L', OrdS w W' bq bn be bi L' inn want v8 → W'.cell? ⟨ab, ao + k, none⟩ = some (.int .i64 (x : Int)) ∧ W'.cell? ⟨bi, x, none⟩ = some (.bool (inn x)) :=
            fun W' L' O' => ⟨by rw [← x0]; exact (O'.fr.cell ab _ hab).trans (O.fr.cell ab _ hab).symm, O'.b.rat hx⟩
          have xw : w.cell? ⟨ab, ao + k, none⟩ = some (.int .i64 (x : Int)) := (O.fr.cell ab _ hab).symm.trans x0
          have wl : want.length ≤ 60 := by omega
          have HIN := Lib.hid hin
          have H20 := Lib.hid h20
          have HND := Lib.hid hnd
          clear hin h20 hnd
          go_wp2_with fail
          have Od := O.stays (Fr.drew (Fr.refl [] wr))
          refine u_region (S := fun w' => w'.cell? ⟨ab, ao + k, none⟩ = some (.int .i64 (x : Int)) ∧ w'.cell? ⟨bi, x, none⟩ = some (.bool (inn x))) 13 (by kernel_rfl) (by kernel_rfl) (by kernel_rfl) (by kernel_rfl) (by kernel_rfl) (hSof _ _ Od) ?_
          (refine u_take 0 (v := ?_) rfl rfl (by kernel_rfl) (by kernel_rfl) (fun _ _ _ h => h) (Or.inl ⟨by rfl, ?_⟩) ?_; rotate_left; (focus (intro wz hSw; (try dsimp only at hSw); go_simp; (try with_reducible rfl))); (try simp only [Act.put, List.getElem_toArray, List.getElem_cons_succ, List.getElem_cons_zero, List.setIfInBounds_toArray, List.set_cons_zero, List.set_cons_succ]))
          (refine u_take 1 (v := ?_) rfl rfl (by kernel_rfl) (by kernel_rfl) (fun _ _ _ h => h) (Or.inl ⟨by rfl, ?_⟩) ?_; rotate_left; (focus (intro wz hSw; (try dsimp only at hSw); go_simp; (try with_reducible rfl))); (try simp only [Act.put, List.getElem_toArray, List.getElem_cons_succ, List.getElem_cons_zero, List.setIfInBounds_toArray, List.set_cons_zero, List.set_cons_succ]))
          (refine u_take 2 (v := ?_) rfl rfl (by kernel_rfl) (by kernel_rfl) (fun _ _ _ h => h) (Or.inl ⟨by rfl, ?_⟩) ?_; rotate_left; (focus (intro wz hSw; (try dsimp only at hSw); go_simp; (try with_reducible rfl))); (try simp only [Act.put, List.getElem_toArray, List.getElem_cons_succ, List.getElem_cons_zero, List.setIfInBounds_toArray, List.set_cons_zero, List.set_cons_succ]))
          (refine u_take 3 (v := ?_) rfl rfl (by kernel_rfl) (by kernel_rfl) (fun _ _ _ h => h) (Or.inl ⟨by rfl, ?_⟩) ?_; rotate_left; (focus (intro wz hSw; (try dsimp only at hSw); go_simp; (try with_reducible rfl))); (try simp only [Act.put, List.getElem_toArray, List.getElem_cons_succ, List.getElem_cons_zero, List.setIfInBounds_toArray, List.set_cons_zero, List.set_cons_succ]))
          (refine u_take 4 (v := ?_) rfl rfl (by kernel_rfl) (by kernel_rfl) (fun _ _ _ h => h) (Or.inl ⟨by rfl, ?_⟩) ?_; rotate_left; (focus (intro wz hSw; (try dsimp only at hSw); go_simp; (try with_reducible rfl))); (try simp only [Act.put, List.getElem_toArray, List.getElem_cons_succ, List.getElem_cons_zero, List.setIfInBounds_toArray, List.set_cons_zero, List.set_cons_succ]))
          (refine u_take 6 (v := ?_) rfl rfl (by kernel_rfl) (by kernel_rfl) (fun _ _ _ h => h) (Or.inl ⟨by rfl, ?_⟩) ?_; rotate_left; (focus (intro wz hSw; (try dsimp only at hSw); go_simp; (try with_reducible rfl))); (try simp only [Act.put, List.getElem_toArray, List.getElem_cons_succ, List.getElem_cons_zero, List.setIfInBounds_toArray, List.set_cons_zero, List.set_cons_succ]))
          (refine u_take 7 (v := ?_) rfl rfl (by kernel_rfl) (by kernel_rfl) (fun _ _ _ h => h) (Or.inl ⟨by rfl, ?_⟩) ?_; rotate_left; (focus (intro wz hSw; (try dsimp only at hSw); go_simp; (try with_reducible rfl))); (try simp only [Act.put, List.getElem_toArray, List.getElem_cons_succ, List.getElem_cons_zero, List.setIfInBounds_toArray, List.set_cons_zero, List.set_cons_succ]))
          (refine u_take 8 (v := ?_) rfl rfl (by kernel_rfl) (by kernel_rfl) (fun _ _ _ h => h) (Or.inl ⟨by rfl, ?_⟩) ?_; rotate_left; (focus (intro wz hSw; (try dsimp only at hSw); go_simp; (try with_reducible rfl))); (try simp only [Act.put, List.getElem_toArray, List.getElem_cons_succ, List.getElem_cons_zero, List.setIfInBounds_toArray, List.set_cons_zero, List.set_cons_succ]))
          (refine u_take 9 (v := ?_) rfl rfl (by kernel_rfl) (by kernel_rfl) (fun _ _ _ h => h) (Or.inl ⟨by rfl, ?_⟩) ?_; rotate_left; (focus (intro wz hSw; (try dsimp only at hSw); go_simp; (try with_reducible rfl))); (try simp only [Act.put, List.getElem_toArray, List.getElem_cons_succ, List.getElem_cons_zero, List.setIfInBounds_toArray, List.set_cons_zero, List.set_cons_succ]))
          (refine u_take 10 (v := ?_) rfl rfl (by kernel_rfl) (by kernel_rfl) (fun _ _ _ h => h) (Or.inl ⟨by rfl, ?_⟩) ?_; rotate_left; (focus (intro wz hSw; (try dsimp only at hSw); go_simp; (try with_reducible rfl))); (try simp only [Act.put, List.getElem_toArray, List.getElem_cons_succ, List.getElem_cons_zero, List.setIfInBounds_toArray, List.set_cons_zero, List.set_cons_succ]))
          (refine u_take 11 (v := ?_) rfl rfl (by kernel_rfl) (by kernel_rfl) (fun _ _ _ h => h) (Or.inl ⟨by rfl, ?_⟩) ?_; rotate_left; (focus (intro wz hSw; (try dsimp only at hSw); go_simp; (try with_reducible rfl))); (try simp only [Act.put, List.getElem_toArray, List.getElem_cons_succ, List.getElem_cons_zero, List.setIfInBounds_toArray, List.set_cons_zero, List.set_cons_succ]))
          (refine u_take 12 (v := ?_) rfl rfl (by kernel_rfl) (by kernel_rfl) (fun _ _ _ h => h) (Or.inl ⟨by rfl, ?_⟩) ?_; rotate_left; (focus (intro wz hSw; (try dsimp only at hSw); go_simp; (try with_reducible rfl))); (try simp only [Act.put, List.getElem_toArray, List.getElem_cons_succ, List.getElem_cons_zero, List.setIfInBounds_toArray, List.set_cons_zero, List.set_cons_succ]))
          refine u_one 5 (by kernel_rfl) rfl rfl (fun Kq hKq => ?_)
          go_simp
          rcases hb : inn x with _ | _
          · have hnw : x ∉ want := fun h => by rw [(HIN.out x hx).2 h] at hb; cases hb
            refine (push_yes Od.q 0 x (by omega) hx (fun j _ => hnw)).mono ?_
            rintro e w3 ⟨rfl, F3, q3⟩
            have O3 := Od.q_turns hS F3 (q3.congr (L' := fun _ => want ++ [x]) (fun i hi => by obtain rfl : i = 0 := (by omega); rfl))
            refine hKq _ _ (hb ▸ hSof _ _ O3) ?_
            clear hKq Kq
            (try simp only [Act.put, List.getElem_toArray, List.getElem_cons_succ, List.getElem_cons_zero, List.setIfInBounds_toArray, List.set_cons_zero, List.set_cons_succ])
            refine u_last (by kernel_rfl) rfl (by kernel_rfl) ?_
            obtain ⟨y0, y1⟩ := hSof _ _ O3
            rw [hb] at y1
            clear Od O
            go_wp2_with (first
              | (at_builtin
                 refine wpList_appO (w0 := w) rfl (.tmp 81) (.tmp 86) rfl _ want.length want rfl ?ow (some ⟨_, 0, none⟩) 1 1 [x] rfl rfl ?sr ?bd ?sz ?_
                 case ow => exact O3.own.alloc _
                 case sr => exact src_one (e := 3) (Blk.new _ _ _)
                 case bd => omega
                 case sz => (have := O3.fr.size; simp; omega)
                 intro v' w4 ho hF
                 have O4 := (O3.stays (Fr.alloc (Fr.refl [] w3) _)).w_turns (want' := want ++ [x]) hF (by simpa using ho)
                 have y2 : w4.cell? ⟨ab, ao + k, none⟩ = some (.int .i64 (x : Int)) := (O4.fr.cell ab _ hab).trans xw
                 have y3 := O4.b.rat hx
                 have y4 := O4.b.frozen
                 clear O3))
            go_roundw
            case rel =>
              refine ⟨k + 1, by omega, by simp, v', want ++ [x], updB inn x true, rfl, O4.b_turns hB x true, fun y hy => ?_, fun y hy => ?_, ?_, ?_⟩
              · by_cases c : y = x
                · subst c; simp [updB]
                · simp [updB, c, HIN.out y hy]
              · rcases List.mem_append.1 hy with h | h
                · exact H20.out y h
                · rw [List.mem_singleton.1 h]; exact hx
              · exact List.nodup_append.2 ⟨HND.out, by simp, by intro a ha b hb; rw [List.mem_singleton.1 hb]; rintro rfl; exact hnw ha⟩
              · simp; omega
            case measure => simp [intOf]; omega
          · have hw : x ∈ want := (HIN.out x hx).1 hb
            refine (push_refused Od.q 0 x (fun h => h.2.2.2.2 0 (by omega) (by simpa using hw))).mono ?_
            rintro e w3 ⟨rfl, F3, q3⟩
            have O3 := Od.q_turns hS F3 q3
            refine hKq _ _ (hb ▸ hSof _ _ O3) ?_
            clear hKq Kq
            (try simp only [Act.put, List.getElem_toArray, List.getElem_cons_succ, List.getElem_cons_zero, List.setIfInBounds_toArray, List.set_cons_zero, List.set_cons_succ])
            refine u_last (by kernel_rfl) rfl (by kernel_rfl) ?_
            obtain ⟨y0, y1⟩ := hSof _ _ O3
            rw [hb] at y1
            have y4 := O3.b.frozen
            clear Od O
            go_wp2_with fail
            go_roundw
            case rel =>
              refine ⟨k + 1, by omega, by simp, v8, want, updB inn x true, rfl, O3.b_turns hB x true, fun y hy => ?_, H20.out, HND.out, by omega⟩
              by_cases c : y = x
              · subst c; simp [updB, hw]
              · simp [updB, c, HIN.out y hy]
            case measure => simp [intOf]; omega
      · obtain rfl : k = n0 := by omega
        go_wp2_with fail
        obtain ⟨wo, hwo⟩ : ∃ wo : World, wo = wr := ⟨_, rfl⟩
        subst hwo
        have O9 := O
        have HIN := Lib.hid hin
        have H20 := Lib.hid h20
        have HND := Lib.hid hnd
        obtain ⟨Aw, cw, hv8, hcw⟩ := own_form O.own
        subst hv8
        have hwl2 : want.length ≤ 60 := by omega
        clear hin h20 hnd O2 W0 hwl
        go_loopw [10] (fun s10 wr => ∃ k : Nat, k ≤ n1 ∧ s10 = .int .i64 k ∧ ∃ inn, OrdS w wr bq bn be bi (fun _ => want.filter inn) inn want (.slice Aw want.length cw) ∧ (∀ x, x < 20 → inn x = true → x ∈ want)) (fun s10 _ => n1 - (intOf s10).toNat)
        case atStart =>
          refine ⟨0, by omega, rfl, inn, ⟨O.fr, O.q.congr (fun i hi => ?_), O.b, O.own⟩, fun x hx h => (HIN.out x hx).1 h⟩
          exact (List.filter_eq_self.2 (fun y hy => (HIN.out y (H20.out y hy)).2 hy)).symm
        case round =>
          obtain ⟨j, hj, rfl, inn2, O2, hin2⟩ := hrel
          clear O O9
          by_cases hlt2 : j < n1
          · have i0 : (0 : Int) ≤ (j : Int) := by omega
            have i1 : (j : Int) < (n1 : Int) := by omega
            obtain ⟨ab, ao, rfl, hab, hcell⟩ := W1.out.2 (by omega)
            have xw := hcell j 0 hlt2 (by omega)
            generalize F1 j 0 = z at xw
            rw [show j * 1 + 0 = j by omega] at xw
            have x0 := (O2.fr.cell ab (ao + j) hab).trans xw
            clear hcell
            by_cases hz : z < 0 ∨ 19 < z
            · rcases (show z < 0 ∨ (¬ z < 0 ∧ 19 < z) by omega) with z1 | ⟨z1, z2⟩
              all_goals
                go_wp2_with fail
                refine (fifoAlive_any _).mono ?_
                rintro e w3 ⟨rfl, hf⟩
                go_wp2_with fail
                go_ret
                exact ⟨rfl, (O2.fr.trans hf).toBelow⟩
            · obtain ⟨x, rfl⟩ := Int.eq_ofNat_of_zero_le (show 0 ≤ z by omega)
              have hx : x < 20 := by omega
              have z1 : ¬ (x : Int) < 0 := by omega
              have z2 : ¬ (19 : Int) < (x : Int) := by omega
              have z3 : (0 : Int) ≤ (x : Int) := by omega
              have z4 : (x : Int) < 20 := by omega
              have HIN2 := Lib.hid hin2
              clear hz hin2
              go_wp2_with fail
              rcases hb : inn2 x with _ | _
              · have hnw : x ∉ want.filter inn2 := fun h => by rw [List.mem_filter, hb] at h; cases h.2
                refine (remove_none O2.q x (fun i _ m hm => by obtain rfl : m = x := (by omega); exact hnw)).mono ?_
                rintro e w3 ⟨rfl, rfl⟩
                have y1 := O2.b.rat hx
                rw [hb] at y1
                have y4 := O2.b.frozen
                go_wp2_with fail
                go_roundw
                case rel =>
                  have O3 := O2.b_turns hB x false
                  refine ⟨j + 1, by omega, by simp, updB inn2 x false, ⟨O3.fr, O3.q.congr (fun i _ => (filter_same hb).symm), O3.b, O3.own⟩, fun y hy h => ?_⟩
                  by_cases c : y = x
                  · subst c; simp [updB] at h
                  · exact HIN2.out y hy (by simpa [updB, c] using h)
                case measure => simp [intOf]; omega
              · have hm : x ∈ want.filter inn2 := List.mem_filter.2 ⟨HIN2.out x hx hb, hb⟩
                obtain ⟨X, Y, hXY⟩ := List.append_of_mem hm
                refine (remove_yes O2.q 0 x X Y (by omega) hXY).mono ?_
                rintro e w3 ⟨rfl, F3, q3⟩
                have O3 := O2.q_turns hS F3 q3
                have x3 := (O3.fr.cell ab (ao + j) hab).trans xw
                have y1 := O3.b.rat hx
                rw [hb] at y1
                have y4 := O3.b.frozen
                go_wp2_with fail
                go_roundw
                case rel =>
                  have O4 := O3.b_turns hB x false
                  refine ⟨j + 1, by omega, by simp, updB inn2 x false, ⟨O4.fr, O4.q.congr (fun i hi => ?_), O4.b, O4.own⟩, fun y hy h => ?_⟩
                  · obtain rfl : i = 0 := by omega
                    simp only [updQ, if_true]
                    exact filter_out HND.out hXY
                  by_cases c : y = x
                  · subst c; simp [updB] at h
                  · exact HIN2.out y hy (by simpa [updB, c] using h)
                case measure => simp [intOf]; omega
          · obtain rfl : j = n1 := by omega
            go_wp2_with fail
            obtain ⟨wo, hwo⟩ : ∃ wo : World, wo = wr := ⟨_, rfl⟩
            subst hwo
            go_loopw [13] (fun s13 wr => ∃ k : Nat, k ≤ want.length ∧ s13 = .int .i64 k ∧ OrdS w wr bq bn be bi (fun _ => (want.drop k).filter inn2) inn2 want (.slice Aw want.length cw)) (fun s13 _ => want.length - (intOf s13).toNat)
            case atStart => exact ⟨0, by omega, rfl, O2⟩
            case round =>
              obtain ⟨m, hm, rfl, O4⟩ := hrel
              clear O2
              by_cases hlt3 : m < want.length
              · have i0 : (0 : Int) ≤ (m : Int) := by omega
                have i1 : (m : Int) < (want.length : Int) := by omega
                obtain ⟨g, c, hsl, _, _, hcell⟩ := own_some O4.own (by omega)
                injection hsl with e1 _ e2
                subst e1; subst e2
                obtain ⟨x, hx⟩ : ∃ x, want[m]? = some x := ⟨_, List.getElem?_eq_getElem hlt3⟩
                have x0 := hcell m (.int .i64 (x : Int)) (by simp [nums, hx])
                have hx20 : x < 20 := H20.out x (List.mem_of_getElem? hx)
                have z3 : (0 : Int) ≤ (x : Int) := by omega
                have z4 : (x : Int) < 20 := by omega
                have y1 := O4.b.rat hx20
                have hdr : want.drop m = x :: want.drop (m + 1) := by
                  rw [List.drop_eq_getElem_cons hlt3]
                  have : want[m] = x := by
                    have := List.getElem?_eq_getElem hlt3
                    rw [hx] at this
                    exact (Option.some.inj this).symm
                  rw [this]
                have HX := Lib.hid hx
                have HD := Lib.hid hdr
                clear hcell hx hdr
                rcases hb : inn2 x with _ | _
                · rw [hb] at y1
                  go_wp2_with fail
                  go_roundw
                  case rel =>
                    refine ⟨m + 1, by omega, by simp, ⟨O4.fr, O4.q.congr (fun i hi => ?_), O4.b, O4.own⟩⟩
                    rw [HD.out, List.filter_cons, hb]
                    rfl
                  case measure => simp [intOf]; omega
                · rw [hb] at y1
                  go_wp2_with fail
                  refine (pop_yes O4.q 0 x ((want.drop (m + 1)).filter inn2) (by omega) (by rw [HD.out, List.filter_cons, hb]; rfl)).mono ?_
                  rintro e w3 ⟨rfl, F3, q3⟩
                  have O5 := O4.q_turns hS F3 q3
                  obtain ⟨g', c', hsl, _, _, hcell⟩ := own_some O5.own (by omega)
                  injection hsl with e1 _ e2
                  injection e1 with e1
                  injection e1 with e1
                  subst e1; subst e2
                  have x3 := hcell m (.int .i64 (x : Int)) (by simp [nums, HX.out])
                  clear hcell
                  go_wp2_with fail
                  go_roundw
                  case rel =>
                    refine ⟨m + 1, by omega, by simp, ⟨O5.fr, O5.q.congr (fun i hi => ?_), O5.b, O5.own⟩⟩
                    obtain rfl : i = 0 := by omega
                    simp [updQ]
                  case measure => simp [intOf]; omega
              · obtain rfl : m = want.length := by omega
                go_wp2_with fail
                refine (pop_no O4.q 0 (.inr ⟨0, rfl, by omega, by simp⟩)).mono ?_
                rintro e w3 ⟨rfl, F3⟩
                go_wp2_with fail
                refine (fifoAlive_any _).mono ?_
                rintro e w4 ⟨rfl, hf⟩
                go_wp2_with fail
                go_ret
                exact ⟨rfl, ((O4.fr.trans F3).trans hf).toBelow⟩
end Go.Proofs.Ytgddmkgmpibpgaa
