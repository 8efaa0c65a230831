/- The row of the law ShortLeast: for every input the law returns true, and each argument reads behind the call as it read before. Out of the walk shortLeast_walk. -/
import Derived.Test.YtgddmkgmpibpgaaRows
import Derived.Test.YtgddmkgmpibpgaaRow
import Derived.Test.YtgddmkgmpibpgaaWShortLeast
import Derived.WalkKit
import Derived.ProofKit
import Derived.OpenShut
import Derived.ShutString
import Derived.ChangeOld
import Derived.Below
import Derived.SizedLaws
namespace Go.Proofs.Ytgddmkgmpibpgaa.shortLeast
set_option linter.unusedVariables false
set_option linter.unusedSimpArgs false
open Go.ChangeShapes Go.WideShapes Go.ChangeAt Go.RowKit
set_option linter.unusedVariables false
theorem own : ownKnob Try.prog.godebug = none := by kernel_rfl
theorem laidOut : laidOutB Try.prog = true := by kernel_rfl
set_option maxRecDepth 100000 in
theorem lifted (os : Os) (started : os.Started) (H : Type) (enc : TypeId × Value → H) :
    ReturnsInHanded {} Try.checked os 3 .any (Rows.shortLeastSpec.pre6 enc Try.prog Try.f3 Rows.shortLeastRow.domain false) (Rows.shortLeastSpec.post enc Try.prog Try.f3 false true false false) := by
  refine returnsInHanded_of_change_sized (C := Try.checked) own started (by kernel_rfl) Try.func3
    (ChangeSpec.witness6 (enc := enc) (C := Try.checked) false ⟨#[], #[.agg #[.bool false, .int .i64 0], .agg #[.int .i64 0, .int .i64 0, .int .i64 0, .int .i64 0, .int .i64 0, .int .i64 0, .int .i64 0, .int .i64 0, .int .i64 0, .int .i64 0, .int .i64 0, .int .i64 0, .int .i64 0, .int .i64 0, .int .i64 0, .int .i64 0]], []⟩ 8 (by kernel_rfl) (by kernel_rfl) (by kernel_rfl) (by kernel_rfl)) ?_
  intro W base args ds gs before hval0 hW hcnd hsz0 _
  have hval : ∀ (j : Nat) t v, Try.f3.params[j]? = some t → args[j]? = some v → Value.okWide Try.prog W .any base t v := hval0
  have hW' := hW
  obtain ⟨p, q, hA0, hV, rfl, hfz, hnd⟩ := hW
  have hA : DataW.TrodAll enc Try.prog W 0 (fun _ => true) true Try.f3.params.toList args.toList ds p := hA0
  rw [Try.params3] at hA hval
  obtain ⟨v0, vs0, d0, ds0, p0, q0, hargs, rfl, rfl, h0, r0⟩ := trodAll_cons hA
  obtain ⟨v1, vs1, d1, ds1, p1, q1, rfl, rfl, rfl, h1, r1⟩ := trodAll_cons r0
  obtain ⟨rfl, rfl, rfl⟩ := trodAll_nil r1
  obtain rfl : args = #[v0, v1] := by cases args; simp_all
  obtain ⟨rfl, rfl⟩ := trodVars_none hV
  have k0 := h0
  have lt0 : ∀ x ∈ p0, x.block < W.heap.size := by obtain ⟨m, hm⟩ := k0; exact DataW.trod_lt m _ _ _ hm
  obtain ⟨c0, rfl, L0_0⟩ := open_leaves Try.underlying23 (ks := [false, true]) (by kernel_rfl) (hval 0 23 v0 rfl rfl) h0
  obtain ⟨a0_0, c0, rfl, L0_1⟩ := Leafs.bool_inv L0_0
  obtain ⟨a0_1, c0, rfl, b0_1, L0_2⟩ := Leafs.int_inv L0_1
  obtain rfl := Leafs.nil_inv L0_2
  have k1 := h1
  have lt1 : ∀ x ∈ p1, x.block < W.heap.size := by obtain ⟨m, hm⟩ := k1; exact DataW.trod_lt m _ _ _ hm
  obtain ⟨c1, rfl, L1_0⟩ := open_leaves Try.underlying25 (ks := [true, true, true, true, true, true, true, true, true, true, true, true, true, true, true, true]) (by kernel_rfl) (hval 1 25 v1 rfl rfl) h1
  obtain ⟨a1_0, c1, rfl, b1_0, L1_1⟩ := Leafs.int_inv L1_0
  obtain ⟨a1_1, c1, rfl, b1_1, L1_2⟩ := Leafs.int_inv L1_1
  obtain ⟨a1_2, c1, rfl, b1_2, L1_3⟩ := Leafs.int_inv L1_2
  obtain ⟨a1_3, c1, rfl, b1_3, L1_4⟩ := Leafs.int_inv L1_3
  obtain ⟨a1_4, c1, rfl, b1_4, L1_5⟩ := Leafs.int_inv L1_4
  obtain ⟨a1_5, c1, rfl, b1_5, L1_6⟩ := Leafs.int_inv L1_5
  obtain ⟨a1_6, c1, rfl, b1_6, L1_7⟩ := Leafs.int_inv L1_6
  obtain ⟨a1_7, c1, rfl, b1_7, L1_8⟩ := Leafs.int_inv L1_7
  obtain ⟨a1_8, c1, rfl, b1_8, L1_9⟩ := Leafs.int_inv L1_8
  obtain ⟨a1_9, c1, rfl, b1_9, L1_10⟩ := Leafs.int_inv L1_9
  obtain ⟨a1_10, c1, rfl, b1_10, L1_11⟩ := Leafs.int_inv L1_10
  obtain ⟨a1_11, c1, rfl, b1_11, L1_12⟩ := Leafs.int_inv L1_11
  obtain ⟨a1_12, c1, rfl, b1_12, L1_13⟩ := Leafs.int_inv L1_12
  obtain ⟨a1_13, c1, rfl, b1_13, L1_14⟩ := Leafs.int_inv L1_13
  obtain ⟨a1_14, c1, rfl, b1_14, L1_15⟩ := Leafs.int_inv L1_14
  obtain ⟨a1_15, c1, rfl, b1_15, L1_16⟩ := Leafs.int_inv L1_15
  obtain rfl := Leafs.nil_inv L1_16
  clear hA0 hval0 hsz0
  refine (shortLeast_walk W a0_0 a0_1 a1_0 a1_1 a1_2 a1_3 a1_4 a1_5 a1_6 a1_7 a1_8 a1_9 a1_10 a1_11 a1_12 a1_13 a1_14 a1_15 b0_1 b1_0 b1_1 b1_2 b1_3 b1_4 b1_5 b1_6 b1_7 b1_8 b1_9 b1_10 b1_11 b1_12 b1_13 b1_14 b1_15).mono fun e W' ⟨he, bel⟩ => ?_
  subst he
  exact ⟨_, rfl, _, _, _, [], _, [], hW', trodAll_mk1 (shut_bool Try.underlying4 _), (trodAll_cons_mk (Below.trod laidOut (by kernel_rfl) (of_decide_eq_true (by kernel_rfl)) k0 bel lt0) (trodAll_cons_mk (Below.trod laidOut (by kernel_rfl) (of_decide_eq_true (by kernel_rfl)) k1 bel lt1) trodAll_mk0)), rfl, bel.frame _, fun h => by cases h⟩
theorem over : Rows.shortLeastRow.holds Try.pinned (OpenSpec.ofChange Rows.shortLeastSpec) :=
  OpenClaim.holds_of_wide 3 Try.f3 rfl rfl rfl rfl rfl rfl rfl ⟨rfl, rfl, rfl, rfl, rfl⟩ rfl rfl rfl rfl rfl (by kernel_rfl) Try.func3 (by kernel_rfl)
    (of_decide_eq_true (by kernel_rfl)) (by unfold Func.isWrapper; first | (rw [if_pos (by decide +kernel)]; kernel_rfl) | (rw [if_neg (by decide +kernel)]; exact ⟨rfl, rfl⟩))
    (fun os started H enc _ => lifted os started H enc)
theorem proved : Rows.ShortLeastSaid := over
#print axioms proved
end Go.Proofs.Ytgddmkgmpibpgaa.shortLeast
namespace Go.Proofs.Ytgddmkgmpibpgaa
theorem shortLeast_holds : Rows.ShortLeastSaid := shortLeast.proved
end Go.Proofs.Ytgddmkgmpibpgaa
