/- The law FifoEach, walked. -/
import Derived.Test.YtgddmkgmpibpgaaFifoH
import Derived.Test.YtgddmkgmpibpgaaFifoF
import Derived.Test.YtgddmkgmpibpgaaRow
namespace Go.Proofs.Ytgddmkgmpibpgaa
set_option linter.unusedVariables false
set_option linter.unusedSimpArgs false
open Go.RowKit Go.Shelf
attribute [local go_sem] Oper.semAt_some

theorem AbsQ.lt0 {w : World} {bq bn be N K : Nat} {L : Nat → List Nat} (h : AbsQ w bq bn be N K L) : bq < w.heap.size := by
  obtain ⟨nd, en, r, v⟩ := h
  exact r.q.lt
theorem keeps_fr {S : List Nat} {W W' : World} {B : Nat} (h : Fr S W W') (hS : ∀ x ∈ S, x < B) : KeepsFrom B W W' :=
  ⟨h.size, fun k o hB hk _ => (h.block k (Array.getElem?_eq_some_iff.1 hk).1 (fun hx => by have := hS k hx; omega)).trans hk⟩
theorem own_pure {β : Type} {B : Nat} (p : β → Prop) : OwnFrom B (fun (s : β) _ => p s) := fun _ _ _ _ hs _ _ => hs
theorem own_imp {β : Type} {B : Nat} {p : β → Prop} {Q : β → World → Prop} (h : OwnFrom B Q) : OwnFrom B (fun s W => p s → Q s W) := fun s A C r hs hg hr hp => h s A C r (hs hp) hg hr
theorem fr_fresh {S : List Nat} {a b c : World} (k : Fr S b c) (hS : ∀ x ∈ S, a.heap.size ≤ x) (h : Fr [] a b) : Fr [] a c :=
  ⟨k.os.trans h.os, k.tape.trans h.tape, k.output.trans h.output, Nat.le_trans h.size k.size, fun i hi hn => (k.block i (Nat.lt_of_lt_of_le hi h.size) (fun hx => by have := hS i hx; omega)).trans (h.block i hi hn)⟩

set_option maxHeartbeats 4000000 in
theorem fifoEach_walk (w : World) (a0 : Int) (a1 : Int) (A2 : Option Addr) (n2 c2 : Nat) (F2 : Nat → Nat → Int) (a3 : Int) (a4 : Int) (b0 : -9223372036854775808 ≤ a0 ∧ a0 ≤ 9223372036854775807) (b1 : -9223372036854775808 ≤ a1 ∧ a1 ≤ 9223372036854775807) (w2 : IntRow w A2 n2 3 F2) (m2 : n2 ≤ maxLen) (b3 : -9223372036854775808 ≤ a3 ∧ a3 ≤ 9223372036854775807) (b4 : -9223372036854775808 ≤ a4 ∧ a4 ≤ 9223372036854775807) :
    Calls Try.prog 7 #[.int .i64 a0, .int .i64 a1, .slice A2 n2 c2, .int .i64 a3, .int .i64 a4] w fun e w' => e = .returned (.bool true) ∧ Below w.heap.size w w' := by
  have hm : n2 ≤ 9223372036854775807 := by simp only [maxLen] at m2; omega
  have hm2 : (n2 : Int) ≤ 9223372036854775807 := by omega
  have W2 := Lib.hid w2
  clear w2 m2
  have hcase : (a0 < 1 ∨ 500 < a0 ∨ a1 < 1 ∨ 400 < a1) ∨ ∃ N K : Nat, a0 = N ∧ a1 = K ∧ 1 ≤ N ∧ N ≤ 500 ∧ 1 ≤ K ∧ K ≤ 400 := by
    by_cases hr : a0 < 1 ∨ 500 < a0 ∨ a1 < 1 ∨ 400 < a1
    · exact .inl hr
    · exact .inr ⟨a0.toNat, a1.toNat, by omega, by omega, by omega, by omega, by omega, by omega⟩
  clear b0 b1
  refine callsIn_wide.1 (callsIn_of_wp_marks (n := 9) Try.func7 rfl trivial ?_ rfl)
  simp only [Try.ntmps7, List.size_toArray, List.length_cons, List.length_nil, Nat.reduceAdd, Nat.reduceSub, Array.replicate_succ, Array.replicate_zero, List.push_toArray, List.append_toArray, List.nil_append, List.cons_append]
  refine wpIn_wide.2 ?_
  go_wp2_with fail
  refine (fifoAlive_any _).mono ?_
  rintro e w1 ⟨rfl, hf1⟩
  have B9 := Blk.via hf1 (by simp) ((Blk.new w 3 #[.int .i64 a4]).alloc (.cells #[.bool false] 4))
  have B10 := Blk.via hf1 (by simp) (Blk.new (w.alloc (.cells #[.int .i64 a4] 3)) 4 #[.bool false])
  have F1 : Fr [] w w1 := by with_reducible repeat (first | exact Fr.refl _ _ | assumption | apply Fr.drew | apply Fr.drewN | apply Fr.alloc | (apply Fr.step; assumption; (intro _ h; (first | exact h | (focus (simp_all; done))))) | (apply Fr.setIn; (first | exact List.mem_cons_self | exact List.mem_cons_of_mem _ List.mem_cons_self | exact List.mem_cons_of_mem _ (List.mem_cons_of_mem _ List.mem_cons_self) | exact List.mem_cons_of_mem _ (List.mem_cons_of_mem _ (List.mem_cons_of_mem _ List.mem_cons_self)))) | (apply Fr.setNew; (first | omega | (simp; omega))))
  simp only [World.size_alloc] at B10
  clear hf1
  have l10 := B10.lt
  have s1 := F1.size
  go_wp2_with fail
  by_cases hgo : (a0 < 1 ∨ 500 < a0 ∨ a1 < 1 ∨ 400 < a1) ∨ 200 < n2
  · have h0 : Calls Try.prog 25 #[.int .i64 a0, .int .i64 a1] w1 fun e w' => ∃ p g : Value, e = .returned (.tuple #[p, g]) ∧ Fr [] w1 w' ∧ ((a0 < 1 ∨ 500 < a0 ∨ a1 < 1 ∨ 400 < a1) ∧ g = .int .i64 9 ∨ 200 < n2 ∧ g = .int .i64 0) := by
      rcases hcase with hr | ⟨N, K, rfl, rfl, n1, nN, k1, kK⟩
      · refine (refNew_no w1 a0 a1 hr).mono ?_
        rintro e w2 ⟨rfl, rfl⟩
        exact ⟨_, _, rfl, Fr.refl _ _, .inl ⟨hr, rfl⟩⟩
      · refine (refNew_yes w1 N K n1 nN k1 kK).mono ?_
        rintro e w2 ⟨pr, bl, ss, g4, g5, rfl, G1, r2⟩
        exact ⟨_, _, rfl, G1, .inr ⟨by omega, rfl⟩⟩
    refine h0.mono ?_
    rintro e w2 ⟨p, g, rfl, G1, hg⟩
    have B10 := Blk.via G1 (by simp) B10
    have F1 := F1.trans G1
    have f10 := B10.frozen
    have c10 := B10.cell
    have c11 := (B10.same 0 (.bool true)).cell 0
    clear h0
    rcases hg with ⟨hr, rfl⟩ | ⟨hlen, rfl⟩
    · by_cases hlen : 200 < n2
      · have t1 : (200 : Int) < (n2 : Int) := by omega
        go_wp2_with fail
        refine ⟨.bool true, ?_, rfl, ?_⟩
        · simp [results, Try.f7, go_sem, c11]
        · refine Fr.toBelow ?_
          with_reducible repeat (first | exact Fr.refl _ _ | assumption | apply Fr.drew | apply Fr.drewN | apply Fr.alloc | (apply Fr.step; assumption; (intro _ h; (first | exact h | (focus (simp_all; done))))) | (apply Fr.setIn; (first | exact List.mem_cons_self | exact List.mem_cons_of_mem _ List.mem_cons_self | exact List.mem_cons_of_mem _ (List.mem_cons_of_mem _ List.mem_cons_self) | exact List.mem_cons_of_mem _ (List.mem_cons_of_mem _ (List.mem_cons_of_mem _ List.mem_cons_self)))) | (apply Fr.setNew; (first | omega | (simp; omega))))
      · have t1 : ¬ (200 : Int) < (n2 : Int) := by omega
        go_wp2_with fail
        refine ⟨.bool true, ?_, rfl, ?_⟩
        · simp [results, Try.f7, go_sem, c11]
        · refine Fr.toBelow ?_
          with_reducible repeat (first | exact Fr.refl _ _ | assumption | apply Fr.drew | apply Fr.drewN | apply Fr.alloc | (apply Fr.step; assumption; (intro _ h; (first | exact h | (focus (simp_all; done))))) | (apply Fr.setIn; (first | exact List.mem_cons_self | exact List.mem_cons_of_mem _ List.mem_cons_self | exact List.mem_cons_of_mem _ (List.mem_cons_of_mem _ List.mem_cons_self) | exact List.mem_cons_of_mem _ (List.mem_cons_of_mem _ (List.mem_cons_of_mem _ List.mem_cons_self)))) | (apply Fr.setNew; (first | omega | (simp; omega))))
    · have t1 : (200 : Int) < (n2 : Int) := by omega
      go_wp2_with fail
      refine ⟨.bool true, ?_, rfl, ?_⟩
      · simp [results, Try.f7, go_sem, c11]
      · refine Fr.toBelow ?_
        with_reducible repeat (first | exact Fr.refl _ _ | assumption | apply Fr.drew | apply Fr.drewN | apply Fr.alloc | (apply Fr.step; assumption; (intro _ h; (first | exact h | (focus (simp_all; done))))) | (apply Fr.setIn; (first | exact List.mem_cons_self | exact List.mem_cons_of_mem _ List.mem_cons_self | exact List.mem_cons_of_mem _ (List.mem_cons_of_mem _ List.mem_cons_self) | exact List.mem_cons_of_mem _ (List.mem_cons_of_mem _ (List.mem_cons_of_mem _ List.mem_cons_self)))) | (apply Fr.setNew; (first | omega | (simp; omega))))
  · have hcase' : ∃ N K : Nat, a0 = N ∧ a1 = K ∧ 1 ≤ N ∧ N ≤ 500 ∧ 1 ≤ K ∧ K ≤ 400 := by
      rcases hcase with hr | h
      · exact absurd (.inl hr) hgo
      · exact h
    obtain ⟨N, K, rfl, rfl, n1, nN, k1, kK⟩ := hcase'
    have hlen : n2 ≤ 200 := by omega
    have t1 : ¬ (200 : Int) < (n2 : Int) := by omega
    clear hgo hcase
    refine (refNew_yes w1 N K n1 nN k1 kK).mono ?_
    rintro e w2 ⟨pr, bl, ss, g4, g5, rfl, G1, r2⟩
    have s2 := G1.size
    go_wp2_with fail
    refine (new_yes w2 N K n1 nN k1 kK).mono ?_
    rintro e w3 ⟨bq, bn, be, g1, g2, g3, rfl, G2, q3⟩
    have G := G1.trans G2
    have B9 := Blk.via G (by simp) B9
    have B10 := Blk.via G (by simp) B10
    have F3 := F1.trans G
    have B3 : Both w3 bq bn be pr bl N K (fun _ => []) := ⟨q3, ss, r2.fr G2 (by simp) (by simp) (by simp)⟩
    have HS := Lib.hid (show ∀ x ∈ [bn, be, bl], w.heap.size + 2 ≤ x by simp; omega)
    clear q3 r2 F1 G G1 G2
    go_wp2_with fail
    go_loopw [15] (fun s15 wr => ∃ k : Nat, k ≤ n2 ∧ s15 = .int .i64 k ∧ Fr [] w wr ∧ Blk wr w.heap.size 3 #[.int .i64 a4] ∧ Blk wr (w.heap.size + 1) 4 #[.bool false] ∧ ∃ L, Both wr bq bn be pr bl N K L) (fun s15 _ => n2 - (intOf s15).toNat)
    case atStart => exact ⟨0, by omega, rfl, F3, B9, B10, _, B3⟩
    case round =>
      obtain ⟨k, hk, rfl, F5, D9, D10, L, B5⟩ := hrel
      clear B3 F3 B9 B10
      by_cases hlt : k < n2
      · have i0 : (0 : Int) ≤ (k : Int) := by omega
        have i1 : (k : Int) < (n2 : Int) := by omega
        obtain ⟨ab, ao, rfl, hab, hcell⟩ := W2.out.2 (by omega)
        have x0 : wr.cell? ⟨ab, ao + k * 3, none⟩ = some (.int .i64 (F2 k 0)) := by simpa using (F5.cell ab _ hab).trans (hcell k 0 hlt (by omega))
        have x1 : wr.cell? ⟨ab, ao + k * 3 + 1, none⟩ = some (.int .i64 (F2 k 1)) := by simpa [Nat.add_assoc] using (F5.cell ab _ hab).trans (hcell k 1 hlt (by omega))
        have x2 : wr.cell? ⟨ab, ao + k * 3 + 2, none⟩ = some (.int .i64 (F2 k 2)) := by simpa [Nat.add_assoc] using (F5.cell ab _ hab).trans (hcell k 2 hlt (by omega))
        clear hcell
        go_wp2_with fail
        refine (act_any _ bq bn be pr bl N K L B5 _ _ _).mono ?_
        rintro e w6 ⟨rfl, F6, L6, B6⟩
        have E9 := Blk.via F6 (fun h => by have := HS.out _ h; omega) D9
        have E10 := Blk.via F6 (fun h => by have := HS.out _ h; omega) D10
        have F7 := fr_fresh F6 (fun x hx => by have := HS.out x hx; omega) F5
        go_wp2_with fail
        go_roundw
        case rel => exact ⟨k + 1, by omega, by simp, F7, E9, E10, L6, B6⟩
        case measure => simp [intOf]; omega
      · obtain rfl : k = n2 := by omega
        go_wp2_with fail
        obtain ⟨ss5, r5⟩ := B5.2
        have hh := refHas_any (wr.alloc (.cells #[.slice none 0 0] 53)) pr bl N K L ss5 ((r5.fr (Fr.alloc (Fr.refl [] wr) _)) (by simp) (by simp) (by simp)) kK a3
        by_cases hin : 0 ≤ a3 ∧ a3 < K
        · rw [show decide (0 ≤ a3 ∧ a3 < K) = true by simpa using hin] at hh
          refine hh.mono ?_
          rintro e w7 ⟨rfl, rfl⟩
          obtain ⟨i, rfl⟩ := Int.eq_ofNat_of_zero_le hin.1
          have hi : i < K := by omega
          clear hh
          have R := r5.fr (Fr.alloc (Fr.refl [] wr) (.cells #[.slice none 0 0] 53)) (by simp) (by simp) (by simp)
          have c := R.p.cell
          have ca := R.l.rat hi
          have ho := R.own i hi
          have ll := B5.1.bound.2.2 i hi
          obtain ⟨Aw, cw, hs, hcw⟩ := own_form ho
          rw [hs] at ca ho
          clear hs
          go_wp2_with fail
          refine (each_mk _ _ _ ⟨_, rfl⟩).mono ?_
          rintro e w8 ⟨rfl, hW⟩
          have G8 : Fr [] wr w8 := Fr.eqv hW.symm (by with_reducible repeat (first | exact Fr.refl _ _ | assumption | apply Fr.drew | apply Fr.drewN | apply Fr.alloc | (apply Fr.step; assumption; (intro _ h; (first | exact h | (focus (simp_all; done))))) | (apply Fr.setIn; (first | exact List.mem_cons_self | exact List.mem_cons_of_mem _ List.mem_cons_self | exact List.mem_cons_of_mem _ (List.mem_cons_of_mem _ List.mem_cons_self) | exact List.mem_cons_of_mem _ (List.mem_cons_of_mem _ (List.mem_cons_of_mem _ List.mem_cons_self)))) | (apply Fr.setNew; (first | omega | (simp; omega)))))
          have B1 := Blk.box1 hW.symm
          have B2 := Blk.box0 hW.symm
          have Bw := Blk.eqv hW.symm ((((Blk.new wr 53 #[.slice Aw (L i).length cw]).alloc _).alloc _).alloc _)
          have Bn := Blk.eqv hW.symm (((Blk.new (wr.alloc (.cells #[.slice Aw (L i).length cw] 53)) 3 #[.int .i64 0]).alloc _).alloc _)
          simp only [World.size_alloc, World.size_setCell] at B1 B2 Bn
          have E9 := Blk.via G8 (by simp) D9
          have E10 := Blk.via G8 (by simp) D10
          have F8 := F5.trans G8
          have q8 := B5.1.fr G8 (by simp) (by simp) (by simp)
          -- the cells that want reads
          obtain ⟨gi, cur, Bi, hgl, hread⟩ : ∃ gi cur, Blk w8 gi 3 cur ∧ gi < wr.heap.size ∧ ∀ j x, (L i)[j]? = some x → Aw = some ⟨gi, 0, none⟩ ∧ cur[j]? = some (Value.int .i64 ((x : Nat) : Int)) := by
            rcases ho.2 with ⟨e1, e2⟩ | ⟨gi, cap, cur, e, _, hgi, hnc, _, hsz, htake⟩
            · refine ⟨w.heap.size, #[.int .i64 a4], E9, by have := D10.lt; omega, fun j x hx => ?_⟩
              have : L i = [] := List.eq_nil_of_length_eq_zero e2
              rw [this, List.getElem?_nil] at hx
              cases hx
            · have hgi' : Blk (wr.alloc (.cells #[.slice none 0 0] 53)) gi 3 cur := hgi
              have hne : gi ≠ wr.heap.size := Blk.ne hgi' (Blk.new wr 53 #[.slice none 0 0]) (by decide)
              have hlt : gi < wr.heap.size := by
                have := hgi'.lt
                simp only [World.size_alloc] at this
                omega
              refine ⟨gi, cur, ?_, hlt, fun j x hx => ?_⟩
              · exact (G8.block gi hlt (by simp)).trans ((Below.heap_alloc wr _ gi hlt).symm.trans hgi)
              · injection e with e1 _ _
                have hj := (List.getElem?_eq_some_iff.1 hx).1
                have h2 : (nums (L i))[j]? = some (.int .i64 ((x : Nat) : Int)) := by simp [nums, hx]
                rw [← htake, List.getElem?_take_of_lt (by omega)] at h2
                exact ⟨e1, by simpa using h2⟩
          have HR := Lib.hid hread
          have s8 := F8.size
          have lb := B2.lt
          have sr := F5.size
          have lq := q8.lts
          have lq0 := B5.1.lt0
          have lqn := B5.1.lts bn (by simp)
          have lqe := B5.1.lts be (by simp)
          have l9 := D9.lt
          have l10' := D10.lt
          clear hW D9 D10 F5 hread ho R r5 hcw
          go_wp2_with fail
          refine wp_name_act (fun A hA => ?_)
          have hA1 : A.eval (.tmp 67) = .func (.func 75) #[] #[.pointer (some ⟨wr.heap.size + 1 + 1, 0, none⟩), .pointer (some ⟨wr.heap.size + 1 + 1 + 1, 0, none⟩)] := by rw [hA]; rfl
          refine (wpIn_wide (n := 9)).1 (wpIn_rangeFunc_ownG rfl (by omega) hA1 trivial (enters_of Try.func75 (by kernel_rfl) rfl) (each_stops 8 (by omega) _ _ bq bn be N K L i hi w8 B1 B2 q8) same_t (same_b (by simpa using ⟨B1.lt, B2.lt, q8.lt0, lq bn (by simp), lq be (by simp)⟩)) (Below.refl _ _) (fun _ => rfl)
            (fun pre W => (pre <+: L i ∧ ¬ (1 ≤ a4 ∧ a4 ≤ pre.length)) ∧ Fr [] w W ∧ Blk W w.heap.size 3 #[.int .i64 a4] ∧ Blk W (w.heap.size + 1) 4 #[.bool false] ∧ Blk W wr.heap.size 53 #[.slice Aw (L i).length cw] ∧ Blk W (wr.heap.size + 1) 3 #[.int .i64 (pre.length : Int)] ∧ Blk W gi 3 cur)
            (fun c pre W => (pre <+: L i → c = .exit 2 ∧ (pre.length : Int) = a4 ∧ 1 ≤ a4) ∧ Fr [] w W ∧ Blk W w.heap.size 3 #[.int .i64 a4] ∧ (pre <+: L i → Blk W (w.heap.size + 1) 4 #[.bool false]) ∧ Blk W wr.heap.size 53 #[.slice Aw (L i).length cw] ∧ (pre <+: L i → Blk W (wr.heap.size + 1) 3 #[.int .i64 (pre.length : Int)]))
            ?hI ?hIx ⟨⟨List.nil_prefix, by simp; omega⟩, F8, E9, E10, Bw, Bn, Bi⟩
            (fun x => ⟨(A.tmps.setIfInBounds 68 (.int .i64 x)).setIfInBounds 18 (.int .i64 x), []⟩) ?assign ?body ?done ?stop)
          case hI => exact OwnFrom.and (own_pure _) (OwnFrom.and (ownFrom_fr s8) (OwnFrom.and ((own_blk _ _ _).from _) (OwnFrom.and ((own_blk _ _ _).from _) (OwnFrom.and ((own_blk _ _ _).from _) (OwnFrom.and ((own_blk _ _ (fun pre : List Nat => #[.int .i64 (pre.length : Int)])).from _) ((own_blk _ _ _).from _))))))
          case hIx => exact fun c => OwnFrom.and (own_pure _) (OwnFrom.and (ownFrom_fr s8) (OwnFrom.and ((own_blk _ _ _).from _) (OwnFrom.and (own_imp ((own_blk _ _ _).from _)) (OwnFrom.and ((own_blk _ _ _).from _) (own_imp ((own_blk _ _ (fun pre : List Nat => #[.int .i64 (pre.length : Int)])).from _))))))
          case assign =>
            intro l x W Kk hK
            subst hA
            simp only [List.setIfInBounds_toArray, List.set_cons_zero, List.set_cons_succ] at hK
            gi_wp2
            exact hK
          case body =>
            rintro l pre x W ⟨⟨hpre, hns⟩, F9, G9, G10, Gw, Gn, Gi⟩ hlt
            subst hA
            simp only [List.setIfInBounds_toArray, List.set_cons_zero, List.set_cons_succ]
            clear hA1 F8 E9 E10 Bw Bn B1 B2 Bi
            have c9 := G9.cell
            have c10 := G10.cell
            have f10 := G10.frozen
            have cw2 := Gw.cell
            have cn := Gn.cell
            have fn := Gn.frozen
            obtain ⟨y, hy⟩ : ∃ y, (L i)[pre.length]? = some y := ⟨_, List.getElem?_eq_getElem hlt⟩
            obtain ⟨rfl, hcur⟩ := HR.out _ _ hy
            have ci := (Gi.cell pre.length).trans hcur
            by_cases hxy : x = y
            · subst hxy
              have hp2 : pre ++ [x] <+: L i := by
                obtain ⟨r, hr⟩ := hpre
                have h2 := hy
                rw [← hr, List.getElem?_append_right (Nat.le_refl _), Nat.sub_self] at h2
                rcases r with _ | ⟨z, r⟩
                · simp at h2
                · obtain rfl : z = x := by simpa using h2
                  exact ⟨r, by rw [← hr]; simp⟩
              have hxe : (((x : Nat) : Int) != ((x : Nat) : Int)) = false := by simp
              have FN : Fr [wr.heap.size + 1] W (W.setCell ⟨wr.heap.size + 1, 0, none⟩ (.int .i64 ((pre.length : Int) + 1))) := Fr.setIn List.mem_cons_self (Fr.refl _ _)
              have F10 : Fr [] w (W.setCell ⟨wr.heap.size + 1, 0, none⟩ (.int .i64 ((pre.length : Int) + 1))) := Fr.setNew (by omega) F9
              have K10 : KeepsFrom w8.heap.size W (W.setCell ⟨wr.heap.size + 1, 0, none⟩ (.int .i64 ((pre.length : Int) + 1))) := keeps_fr FN (by simp; omega)
              have N10 : Blk (W.setCell ⟨wr.heap.size + 1, 0, none⟩ (.int .i64 ((pre.length : Int) + 1))) (wr.heap.size + 1) 3 #[.int .i64 ((pre ++ [x]).length : Int)] := (Gn.same 0 _).cast (by simp)
              by_cases hst : (pre.length : Int) + 1 = a4
              · rw [hst] at FN F10 K10 N10
                gi_wp2
                exact ⟨K10, fun _ => ⟨rfl, by simp; omega, by omega⟩, F10, G9.off (by omega) , fun _ => G10.off (by omega), Gw.off (by omega), fun _ => N10⟩
              · have hst' : ((pre.length : Int) + 1 == a4) = false := by simpa using hst
                gi_wp2
                exact ⟨K10, ⟨by simp, fun z hz => Below.heap_setCell _ _ _ _ (by rintro rfl; simp at hz; omega)⟩, ⟨hp2, by simp; omega⟩, F10, G9.off (by omega), G10.off (by omega), Gw.off (by omega), N10, Gi.off (by omega)⟩
            · have hxy' : (((x : Nat) : Int) != ((y : Nat) : Int)) = true := by simp; omega
              have hnp : ¬ (pre ++ [x] <+: L i) := by
                rintro ⟨r, hr⟩
                rw [← hr] at hy
                simp at hy
                exact hxy hy
              gi_wp2
              have FN : Fr [w.heap.size + 1] W (W.setCell ⟨w.heap.size + 1, 0, none⟩ (.bool false)) := Fr.setIn List.mem_cons_self (Fr.refl _ _)
              exact ⟨keeps_fr FN (by simp; omega), fun h => absurd h hnp, Fr.setNew (by omega) F9, G9.off (by omega), fun h => absurd h hnp, Gw.off (by omega), fun h => absurd h hnp⟩
          case stop =>
            rintro D c pre W hD hpre ⟨hx, F9, G9, G10, Gw, Gn⟩ hK
            obtain ⟨rfl, hlen4, h14⟩ := hx hpre
            have G10 := G10 hpre
            have Gn := Gn hpre
            have hle := hpre.length_le
            refine wpIn_wide.2 ?_
            subst hA
            clear hA1 F8 E9 E10 Bw Bn B1 B2 q8 Bi
            have HK := Lib.hid hK
            clear hK
            have c9 := G9.cell
            have c10 := G10.cell
            have f10 := G10.frozen
            have cw2 := Gw.cell
            have cn := Gn.cell
            rw [hlen4] at cn
            go_wp2_with fail
            all_goals
              refine ⟨by simp, .inl ⟨_, _, rfl, run_takeDeferred (def_fr (Fr.setIn (o := 0) List.mem_cons_self (Fr.refl [w.heap.size + 1] W)) HK.out (by intro h; rcases List.mem_singleton.1 h with rfl; omega)), ?_⟩⟩
              refine ⟨.bool true, ?_, rfl, (fr_put (Fr.setNew (by omega) F9) (by omega)).toBelow⟩
              first
                | (have c6 := (blk_put (o' := .deferred none) (G10.same 0 (.bool true)) (def_fr (Fr.setIn (o := 0) (u := .bool true) List.mem_cons_self (Fr.refl [w.heap.size + 1] W)) HK.out (by intro h; rcases List.mem_singleton.1 h with rfl; omega)) rfl).cell 0
                   simp [results, Try.f7, go_sem, c6]; done)
                | (exfalso; omega)
                | (rw [show (a4 == ((L i).length : Int)) = true by simp; omega]
                   have c6 := (blk_put (o' := .deferred none) (G10.same 0 (.bool true)) (def_fr (Fr.setIn (o := 0) (u := .bool true) List.mem_cons_self (Fr.refl [w.heap.size + 1] W)) HK.out (by intro h; rcases List.mem_singleton.1 h with rfl; omega)) rfl).cell 0
                   simp [results, Try.f7, go_sem, c6]; done)
          case done =>
            rintro D ys W hD rfl ⟨⟨_, hns⟩, F9, G9, G10, Gw, Gn, _⟩ hK
            subst hA
            clear hA1 F8 E9 E10 Bw Bn B1 B2 q8 Bi
            have HK := Lib.hid hK
            clear hK
            have c9 := G9.cell
            have c10 := G10.cell
            have f10 := G10.frozen
            have cw2 := Gw.cell
            have cn := Gn.cell
            go_wp2_with fail
            all_goals
              refine ⟨by simp, .inl ⟨_, _, rfl, run_takeDeferred (def_fr (Fr.setIn (o := 0) List.mem_cons_self (Fr.refl [w.heap.size + 1] W)) HK.out (by intro h; rcases List.mem_singleton.1 h with rfl; omega)), ?_⟩⟩
              refine ⟨.bool true, ?_, rfl, (fr_put (Fr.setNew (by omega) F9) (by omega)).toBelow⟩
              first
                | (have c6 := (blk_put (o' := .deferred none) (G10.same 0 (.bool true)) (def_fr (Fr.setIn (o := 0) (u := .bool true) List.mem_cons_self (Fr.refl [w.heap.size + 1] W)) HK.out (by intro h; rcases List.mem_singleton.1 h with rfl; omega)) rfl).cell 0
                   simp [results, Try.f7, go_sem, c6]; done)
                | (exfalso; omega)
                | (rw [show (a4 == ((L i).length : Int)) = true by simp; omega]
                   have c6 := (blk_put (o' := .deferred none) (G10.same 0 (.bool true)) (def_fr (Fr.setIn (o := 0) (u := .bool true) List.mem_cons_self (Fr.refl [w.heap.size + 1] W)) HK.out (by intro h; rcases List.mem_singleton.1 h with rfl; omega)) rfl).cell 0
                   simp [results, Try.f7, go_sem, c6]; done)
        · rw [show decide (0 ≤ a3 ∧ a3 < K) = false by simpa using hin] at hh
          refine hh.mono ?_
          rintro e w7 ⟨rfl, rfl⟩
          clear hh
          go_wp2_with fail
          refine (each_mk _ _ _ ⟨_, rfl⟩).mono ?_
          rintro e w8 ⟨rfl, hW⟩
          have G8 : Fr [] wr w8 := Fr.eqv hW.symm (by with_reducible repeat (first | exact Fr.refl _ _ | assumption | apply Fr.drew | apply Fr.drewN | apply Fr.alloc | (apply Fr.step; assumption; (intro _ h; (first | exact h | (focus (simp_all; done))))) | (apply Fr.setIn; (first | exact List.mem_cons_self | exact List.mem_cons_of_mem _ List.mem_cons_self | exact List.mem_cons_of_mem _ (List.mem_cons_of_mem _ List.mem_cons_self) | exact List.mem_cons_of_mem _ (List.mem_cons_of_mem _ (List.mem_cons_of_mem _ List.mem_cons_self)))) | (apply Fr.setNew; (first | omega | (simp; omega)))))
          have B1 := Blk.box1 hW.symm
          have B2 := Blk.box0 hW.symm
          have Bw := Blk.eqv hW.symm ((((Blk.new wr 53 #[.slice none 0 0]).alloc _).alloc _).alloc _)
          have Bn := Blk.eqv hW.symm (((Blk.new (wr.alloc (.cells #[.slice none 0 0] 53)) 3 #[.int .i64 0]).alloc _).alloc _)
          simp only [World.size_alloc] at B1 B2 Bn
          have E9 := Blk.via G8 (by simp) D9
          have E10 := Blk.via G8 (by simp) D10
          have F8 := F5.trans G8
          have q8 := B5.1.fr G8 (by simp) (by simp) (by simp)
          have s8 := F8.size
          have lb := B2.lt
          have sr := F5.size
          clear hW G8 D9 D10 F5 B5 r5
          go_wp2_with fail
          refine wp_name_act (fun A hA => ?_)
          have hA1 : A.eval (.tmp 67) = .func (.func 75) #[] #[.pointer (some ⟨wr.heap.size + 1 + 1, 0, none⟩), .pointer (some ⟨wr.heap.size + 1 + 1 + 1, 0, none⟩)] := by rw [hA]; rfl
          refine (wpIn_wide (n := 9)).1 (wpIn_rangeFunc_ownG rfl (by omega) hA1 trivial (enters_of Try.func75 (by kernel_rfl) rfl) (each_stops_out 8 _ _ bq bn be N K L a3 (by omega) w8 B1 B2 q8 (Same [])) same_t (same_b (by simp)) (Below.refl _ _) (fun _ => rfl)
            (fun _ W => Fr [] w W ∧ Blk W w.heap.size 3 #[.int .i64 a4] ∧ Blk W (w.heap.size + 1) 4 #[.bool false] ∧ Blk W wr.heap.size 53 #[.slice none 0 0] ∧ Blk W (wr.heap.size + 1) 3 #[.int .i64 0]) (fun _ _ _ => False)
            (OwnFrom.and (ownFrom_fr s8) (OwnFrom.and ((own_blk _ _ _).from _) (OwnFrom.and ((own_blk _ _ _).from _) (OwnFrom.and ((own_blk _ _ _).from _) ((own_blk _ _ _).from _))))) (fun _ _ _ _ _ h => h.elim) ⟨F8, E9, E10, Bw, Bn⟩
            (fun x => ⟨(A.tmps.setIfInBounds 68 (.int .i64 x)).setIfInBounds 18 (.int .i64 x), []⟩) ?assign ?body ?done ?stop)
          case assign =>
            intro l x W Kk hK
            subst hA
            simp only [List.setIfInBounds_toArray, List.set_cons_zero, List.set_cons_succ] at hK
            gi_wp2
            exact hK
          case body => intro l pre x W _ h; omega
          case stop => intro D c pre W _ h; exact h.elim
          case done =>
            rintro D ys W hD _ ⟨F9, G9, G10, Gw, Gn⟩ hK
            subst hA
            clear hA1 F8 E9 E10 Bw Bn B1 B2 q8
            have HK := Lib.hid hK
            clear hK
            have c9 := G9.cell
            have c10 := G10.cell
            have f10 := G10.frozen
            have cw := Gw.cell
            have cn := Gn.cell
            go_wp2_with fail
            all_goals
              have c6 := (blk_put (o' := .deferred none) (G10.same 0 (.bool true)) (def_fr (Fr.setIn (o := 0) (u := .bool true) List.mem_cons_self (Fr.refl [w.heap.size + 1] W)) HK.out (by intro h; rcases List.mem_singleton.1 h with rfl; omega)) rfl).cell 0
              refine ⟨by simp, .inl ⟨_, _, rfl, run_takeDeferred (def_fr (Fr.setIn (o := 0) (u := .bool true) List.mem_cons_self (Fr.refl [w.heap.size + 1] W)) HK.out (by intro h; rcases List.mem_singleton.1 h with rfl; omega)), ?_⟩⟩
              refine ⟨.bool true, ?_, rfl, (fr_put (Fr.setNew (by omega) F9) (by omega)).toBelow⟩
              simp [results, Try.f7, go_sem, c6]
end Go.Proofs.Ytgddmkgmpibpgaa
