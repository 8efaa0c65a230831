/- The document's queues, walked: New, Has, Find, Front. -/
import Derived.Test.YtgddmkgmpibpgaaProg
import Derived.Test.YtgddmkgmpibpgaaApp
import Derived.Test.YtgddmkgmpibpgaaFifoM
import Derived.Deep.DeepCutAuto
import Derived.Deep.RegionHeld3
namespace Go.Proofs.Ytgddmkgmpibpgaa
set_option linter.unusedVariables false
set_option linter.unusedSimpArgs false
open Go.RowKit

/-- The document's queues in memory. -/
structure RefQ (w : World) (pr bl N K : Nat) (L : Nat → List Nat) (ss : Nat → Value) : Prop where
  p : Blk w pr 56 #[.int .i64 (N : Int), .slice (some ⟨bl, 0, none⟩) K K]
  l : Blk w bl 53 (row1 K ss)
  own : ∀ i, i < K → w.ownsRow 0 3 1 (ss i) (L i).length (nums (L i))

theorem RefQ.fr {S : List Nat} {w w' : World} {pr bl N K : Nat} {L : Nat → List Nat} {ss : Nat → Value} (hf : Fr S w w') (h1 : pr ∉ S) (h2 : bl ∉ S) (h3 : ∀ i, i < K → ∀ g, (ss i).ownBlock = some g → g ∉ S) (h : RefQ w pr bl N K L ss) : RefQ w' pr bl N K L ss :=
  ⟨Blk.via hf h1 h.p, Blk.via hf h2 h.l, fun i hi => own_via hf (h3 i hi) (h.own i hi)⟩

theorem info_slice : (Try.prog.info? 53).map (fun i => (i.zero, i.size, i.bytes)) = some (some (.slice none 0 0), 1, 24) := by kernel_rfl
theorem info_int : (Try.prog.info? 3).map (fun i => (i.zero, i.size, i.bytes)) = some (some (.int .i64 0), 1, 8) := by kernel_rfl

theorem own_ge {w : World} {base n : Nat} {e : TypeId} {v : Value} {xs : List Value} (h : w.ownsRow base e 1 v n xs) : ∀ g, v.ownBlock = some g → base ≤ g := by
  intro g hg
  rcases h.2 with ⟨rfl, rfl⟩ | ⟨g', cap, cur, rfl, hb, _⟩
  · cases hg
  · injection hg with hg
    have : g' = g := hg
    omega

/-- append onto a row of ints that the call made, at a step of a region. -/
theorem step_appI {w w0 : World} {ops : Array Oper} {o : Oper} {a : Act} {K : Act → World → Prop} {Q : Exit → Act → World → Prop} {E : Prop} (hgd : o.guard = none) (s x : Operand)
    (ho : o.op = .call { callee := .builtin .append, args := #[s, x], argTypes := #[53, 53] })
    (v : Value) (n : Nat) (xs : List Nat) (hv : a.eval s = v) (hown : w.ownsRow w0.heap.size 3 1 v n (nums xs))
    (A : Option Addr) (m c : Nat) (news : List Nat) (hx : a.eval x = .slice A m c) (hl : news.length = m) (hs : Src w A (nums news))
    (h63 : n + m ≤ 1000000) (F : Fr [] w0 w)
    (h : ∀ v' w', w'.ownsRow w0.heap.size 3 1 v' (n + m) (nums (xs ++ news)) → Fr [] w0 w' → (∀ g, g < w.heap.size → some g ≠ v.ownBlock → w'.heap[g]? = w.heap[g]?) → K (a.put o.dst v') w') :
    if Region.wanted o (yielded ops a.tmps) = true then Oper.wp Try.prog o a w K Q else E := by
  obtain ⟨ii, hii, hz0, hz1, hz2⟩ := info_parts info_int
  refine step_app w hgd s x _ ho w0.heap.size 3 ii _ 8 Try.underlying53 hii hz0 hz1 hz2 rfl v n (nums xs) hv hown A m c (nums news) hx (by rw [nums_length]; exact hl) hs (nums_one _) h63 (by omega) F.size (fun v' w' h1 h2 h3 => h v' w' ?_ ?_ ?_)
  · simpa [nums] using h1
  · exact Fr.grown h2 (fun g hg => .inr (own_ge hown g hg)) F
  · exact fun g hg hne => h2.block g hg hne
theorem blk_same {w w' : World} {v : Value} {g : Nat} {t : TypeId} {cs : Array Value} (h : ∀ g, g < w.heap.size → some g ≠ v.ownBlock → w'.heap[g]? = w.heap[g]?) (hv : some g ≠ v.ownBlock) (B : Blk w g t cs) : Blk w' g t cs := (h g B.lt hv).trans B
theorem wpList_appI {w w0 : World} {ops : Array Oper} {rest : List Oper} {o : Oper} {a : Act} {Q : Exit → Act → World → Prop} (hgd : o.guard = none) (s x : Operand)
    (ho : o.op = .call { callee := .builtin .append, args := #[s, x], argTypes := #[53, 53] })
    (v : Value) (n : Nat) (xs : List Nat) (hv : a.eval s = v) (hown : w.ownsRow w0.heap.size 3 1 v n (nums xs))
    (A : Option Addr) (m c : Nat) (news : List Nat) (hx : a.eval x = .slice A m c) (hl : news.length = m) (hs : Src w A (nums news))
    (h63 : n + m ≤ 1000000) (F : Fr [] w0 w)
    (h : ∀ v' w', w'.ownsRow w0.heap.size 3 1 v' (n + m) (nums (xs ++ news)) → Fr [] w0 w' → (∀ g, g < w.heap.size → some g ≠ v.ownBlock → w'.heap[g]? = w.heap[g]?) → (v'.ownBlock = v.ownBlock ∨ v'.ownBlock = some w.heap.size) → wpList Try.prog ops Q rest (a.put o.dst v') w') :
    wpList Try.prog ops Q (o :: rest) a w := by
  obtain ⟨ii, hii, hz0, hz1, hz2⟩ := info_parts info_int
  refine wpList_app w hgd s x _ ho w0.heap.size 3 ii _ 8 Try.underlying53 hii hz0 hz1 hz2 rfl v n (nums xs) hv hown A m c (nums news) hx (by rw [nums_length]; exact hl) hs (nums_one _) h63 (by omega) F.size (fun v' w' h1 h2 h3 => h v' w' ?_ ?_ ?_ h3)
  · simpa [nums] using h1
  · exact Fr.grown h2 (fun g hg => .inr (own_ge hown g hg)) F
  · exact fun g hg hne => h2.block g hg hne

theorem refNew_no (w : World) (a b : Int) (h : a < 1 ∨ 500 < a ∨ b < 1 ∨ 400 < b) :
    Calls Try.prog 25 #[.int .i64 a, .int .i64 b] w fun e w' => e = .returned (.tuple #[.pointer none, .int .i64 9]) ∧ w = w' := by
  have h' : a < 1 ∨ (1 ≤ a ∧ 500 < a) ∨ (1 ≤ a ∧ a ≤ 500 ∧ b < 1) ∨ (1 ≤ a ∧ a ≤ 500 ∧ 1 ≤ b ∧ 400 < b) := by omega
  clear h
  rcases h' with h | h | h | h
  all_goals
    go_enter Try.func25, Try.ntmps25
    go_wp2_with fail
    go_ret2
    exact ⟨rfl, rfl⟩

theorem refNew_yes (w : World) (N K : Nat) (n1 : 1 ≤ N) (n2 : N ≤ 500) (k1 : 1 ≤ K) (k2 : K ≤ 400) :
    Calls Try.prog 25 #[.int .i64 N, .int .i64 K] w fun e w' => ∃ pr bl ss, w.heap.size ≤ pr ∧ w.heap.size ≤ bl ∧ e = .returned (.tuple #[.pointer (some ⟨pr, 0, none⟩), .int .i64 0]) ∧ Fr [] w w' ∧
      RefQ w' pr bl N K (fun _ => []) ss := by
  obtain ⟨il, hi, hz0, hz1, hz2⟩ := info_parts info_slice
  have mk := fun w => run_makeRow1 (P := Try.prog) Try.underlying54 hi hz0 hz1 rfl K (by rw [hz2]; omega) (by omega) w
  clear hi hz0 hz1 hz2
  go_enter Try.func25, Try.ntmps25
  go_wp2_with fail
  go_ret2
  refine ⟨w.heap.size + 1, w.heap.size, fun _ => .slice none 0 0, ?_, ?_, rfl, ?_, ?_, ?_, ?_⟩
  rotate_left 3
  · apply Blk.newAt rfl; simp
  · exact (Blk.new _ _ _).alloc _
  · intro i _
    exact ⟨rfl, .inl ⟨rfl, rfl⟩⟩
  · simp
  · simp
  · with_reducible repeat (first | exact Fr.refl _ _ | assumption | apply Fr.drew | apply Fr.drewN | apply Fr.alloc | (apply Fr.step; assumption; (intro _ h; (first | exact h | (focus (simp_all; done))))) | (apply Fr.setIn; (first | exact List.mem_cons_self | exact List.mem_cons_of_mem _ List.mem_cons_self | exact List.mem_cons_of_mem _ (List.mem_cons_of_mem _ List.mem_cons_self) | exact List.mem_cons_of_mem _ (List.mem_cons_of_mem _ (List.mem_cons_of_mem _ List.mem_cons_self)))) | (apply Fr.setNew; (first | omega | (simp; omega))))

theorem refHas_any (w : World) (pr bl N K : Nat) (L : Nat → List Nat) (ss : Nat → Value) (h : RefQ w pr bl N K L ss) (hK : K ≤ 400) (i : Int) :
    Calls Try.prog 27 #[.pointer (some ⟨pr, 0, none⟩), .int .i64 i] w fun e w' => e = .returned (.bool (decide (0 ≤ i ∧ i < K))) ∧ w = w' := by
  have c := h.p.cell
  rcases (show i < 0 ∨ (0 ≤ i ∧ i < K) ∨ (0 ≤ i ∧ K ≤ i) by omega) with hc | hc | hc
  all_goals
    go_enter Try.func27, Try.ntmps27
    go_wp2_with fail
    go_ret
    refine ⟨ret_bool ?_, rfl⟩
    simp; try omega

/-- What Find says. -/
def Found (K : Nat) (L : Nat → List Nat) (n a b : Int) : Prop :=
  (∃ i k : Nat, a = i ∧ b = k ∧ i < K ∧ ∃ x : Nat, (x : Int) = n ∧ (L i)[k]? = some x) ∨ (a = -1 ∧ b = 0 ∧ ∀ i, i < K → ∀ x ∈ L i, (x : Int) ≠ n)

theorem refFind_any (w : World) (pr bl N K : Nat) (L : Nat → List Nat) (ss : Nat → Value) (h : RefQ w pr bl N K L ss) (hK : K ≤ 400) (hL : ∀ i, i < K → (L i).length ≤ 500) (n : Int) :
    Calls Try.prog 72 #[.pointer (some ⟨pr, 0, none⟩), .int .i64 n] w fun e w' => ∃ a b, e = .returned (.tuple #[.int .i64 a, .int .i64 b]) ∧ w = w' ∧ Found K L n a b := by
  have c := h.p.cell
  go_enter Try.func72, Try.ntmps72
  go_wp2_with fail
  go_loopw [6] (fun s6 wr => wr = w ∧ ∃ i : Nat, i ≤ K ∧ s6 = .int .i64 i ∧ ∀ j, j < i → ∀ x ∈ L j, (x : Int) ≠ n) (fun s6 _ => K - (intOf s6).toNat)
  case atStart => exact ⟨rfl, 0, by omega, rfl, by simp⟩
  case round =>
    obtain ⟨rfl, i, hi, rfl, hno⟩ := hrel
    by_cases hlt : i < K
    · have hown := h.own i hlt
      have ll := hL i hlt
      have ca := h.l.rat hlt
      obtain ⟨Aa, cc, hs, hcc⟩ := own_form hown
      rw [hs] at ca
      go_wp2_with fail
      go_loopw [7] (fun s7 wq => wq = wr ∧ ∃ k : Nat, k ≤ (L i).length ∧ s7 = .int .i64 k ∧ ∀ x ∈ (L i).take k, (x : Int) ≠ n) (fun s7 _ => (L i).length - (intOf s7).toNat)
      case atStart => exact ⟨rfl, 0, by omega, rfl, by simp⟩
      case round =>
        obtain ⟨rfl, k, hk, rfl, hno2⟩ := hrel
        by_cases hlk : k < (L i).length
        · obtain ⟨g, c2, hs2, hcc2, hg, hc2⟩ := own_some hown (by omega)
          rw [hs] at hs2
          injection hs2 with e1 _ e2
          subst e1; subst e2
          have cx := hc2 k (.int .i64 ((L i)[k] : Nat)) (by simp [nums, List.getElem?_map, List.getElem?_eq_getElem hlk])
          by_cases hx : ((L i)[k] : Int) = n
          · go_wp2_with fail
            go_ret2
            refine ⟨_, _, rfl, rfl, .inl ⟨i, k, rfl, rfl, hlt, _, hx, List.getElem?_eq_getElem hlk⟩⟩
          · have hx' : (((L i)[k] : Int) == n) = false := by simpa using hx
            go_wp2_with fail
            go_roundw
            case rel =>
              refine ⟨trivial, k + 1, by omega, by simp, fun x hx2 => ?_⟩
              rw [List.take_succ_eq_append_getElem hlk] at hx2
              rcases List.mem_append.1 hx2 with h1 | h1
              · exact hno2 x h1
              · rw [List.mem_singleton.1 h1]; exact hx
            case measure => simp [intOf]; omega
        · obtain rfl : k = (L i).length := by omega
          go_wp2_with fail
          go_roundw
          case rel =>
            refine ⟨trivial, i + 1, by omega, by simp, fun j hj x hx2 => ?_⟩
            by_cases c : j = i
            · subst c; rw [List.take_length] at hno2; exact hno2 x hx2
            · exact hno j (by omega) x hx2
          case measure => simp [intOf]; omega
    · obtain rfl : i = K := by omega
      go_wp2_with fail
      go_ret2
      exact ⟨_, _, rfl, rfl, .inr ⟨rfl, rfl, hno⟩⟩

theorem refFront_no (w : World) (pr bl N K : Nat) (L : Nat → List Nat) (ss : Nat → Value) (h : RefQ w pr bl N K L ss) (hK : K ≤ 400) (i : Int) (hi : (i < 0 ∨ K ≤ i) ∨ (∃ j : Nat, i = j ∧ j < K ∧ L j = [])) :
    Calls Try.prog 71 #[.pointer (some ⟨pr, 0, none⟩), .int .i64 i] w fun e w' => e = .returned (.tuple #[.int .i64 0, .bool false]) ∧ w = w' := by
  have c := h.p.cell
  have hh := refHas_any w pr bl N K L ss h hK i
  rcases hi with hi | ⟨j, rfl, hj, hL⟩
  · have hb : decide (0 ≤ i ∧ i < K) = false := by simp; omega
    rw [hb] at hh
    have HH := Lib.hid hh
    clear hh
    go_enter Try.func71, Try.ntmps71
    go_wp2_with fail
    refine HH.out.mono ?_
    rintro e w1 ⟨rfl, rfl⟩
    go_wp2_with fail
    go_ret2
    exact ⟨rfl, rfl⟩
  · have hb : decide (0 ≤ (j : Int) ∧ (j : Int) < K) = true := by simp; omega
    rw [hb] at hh
    have HH := Lib.hid hh
    clear hh
    have ca := h.l.rat hj
    obtain ⟨Aa, cc, hs, hcc⟩ := own_form (h.own j hj)
    rw [hs, hL] at ca
    have ca' : w.cell? ⟨bl, j, none⟩ = some (.slice Aa 0 cc) := ca
    clear ca hs
    go_enter Try.func71, Try.ntmps71
    go_wp2_with fail
    refine HH.out.mono ?_
    rintro e w1 ⟨rfl, rfl⟩
    go_wp2_with fail
    go_ret2
    exact ⟨rfl, rfl⟩

theorem refFront_yes (w : World) (pr bl N K : Nat) (L : Nat → List Nat) (ss : Nat → Value) (h : RefQ w pr bl N K L ss) (hK : K ≤ 400) (hL : ∀ i, i < K → (L i).length ≤ 500) (i x : Nat) (l : List Nat) (hi : i < K) (hx : L i = x :: l) :
    Calls Try.prog 71 #[.pointer (some ⟨pr, 0, none⟩), .int .i64 i] w fun e w' => e = .returned (.tuple #[.int .i64 x, .bool true]) ∧ w = w' := by
  have c := h.p.cell
  have hh := refHas_any w pr bl N K L ss h hK i
  have hb : decide (0 ≤ (i : Int) ∧ (i : Int) < K) = true := by simp; omega
  rw [hb] at hh
  have HH := Lib.hid hh
  have ll := hL i hi
  clear hh hb
  have ca := h.l.rat hi
  have hown := h.own i hi
  rw [hx] at hown
  obtain ⟨g, cc, hs, hcc, hg, hc2⟩ := own_some hown (by simp)
  rw [hs] at ca
  have cx := hc2 0 (.int .i64 (x : Nat)) (by simp [nums])
  have lx : (x :: l).length = l.length + 1 := rfl
  rw [hx] at ll
  rw [lx] at ca ll hcc
  clear hs hc2 hown lx
  go_enter Try.func71, Try.ntmps71
  go_wp2_with fail
  refine HH.out.mono ?_
  rintro e w1 ⟨rfl, rfl⟩
  go_wp2_with fail
  go_ret2
  exact ⟨rfl, rfl⟩
end Go.Proofs.Ytgddmkgmpibpgaa
