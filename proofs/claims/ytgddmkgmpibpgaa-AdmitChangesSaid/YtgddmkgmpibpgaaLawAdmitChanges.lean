/- The row of the law AdmitChanges: for every input the law returns true, and each argument reads behind the call as it read before. Out of the walk admitChanges_walk. -/
import Derived.Test.YtgddmkgmpibpgaaRows
import Derived.Test.YtgddmkgmpibpgaaRow
import Derived.Test.YtgddmkgmpibpgaaWAdmitChanges
import Derived.WalkKit
import Derived.ProofKit
import Derived.OpenShut
import Derived.ShutString
import Derived.ChangeOld
import Derived.Below
import Derived.SizedLaws
namespace Go.Proofs.Ytgddmkgmpibpgaa.admitChanges
set_option linter.unusedVariables false
set_option linter.unusedSimpArgs false
open Go.ChangeShapes Go.WideShapes Go.ChangeAt Go.RowKit
set_option linter.unusedVariables false
theorem own : ownKnob Try.prog.godebug = none := by kernel_rfl
theorem laidOut : laidOutB Try.prog = true := by kernel_rfl
set_option maxRecDepth 100000 in
theorem lifted (os : Os) (started : os.Started) (H : Type) (enc : TypeId × Value → H) :
    ReturnsInHanded {} Try.checked os 10 .any (Rows.admitChangesSpec.pre6 enc Try.prog Try.f10 Rows.admitChangesRow.domain false) (Rows.admitChangesSpec.post enc Try.prog Try.f10 false true false false) := by
  refine returnsInHanded_of_change_sized (C := Try.checked) own started (by kernel_rfl) Try.func10
    (ChangeSpec.witness6 (enc := enc) (C := Try.checked) false ⟨#[], #[.agg #[.int .i64 0, .int .i64 0, .int .i64 0, .int .i64 0, .int .i64 0, .int .i64 0, .int .i64 0, .int .i64 0, .int .i64 0, .int .i64 0, .int .i64 0, .int .i64 0, .int .i64 0, .int .i64 0, .int .i64 0, .int .i64 0], .int .i64 0, .agg #[.bool false, .int .i64 0], .agg #[.int .i64 0, .int .i64 0, .int .i64 0, .int .i64 0, .int .i64 0, .int .i64 0, .int .i64 0], .agg #[.int .i64 0, .int .i64 0, .int .i64 0, .int .i64 0, .int .i64 0, .int .i64 0, .int .i64 0, .int .i64 0, .int .i64 0]], []⟩ 8 (by kernel_rfl) (by kernel_rfl) (by kernel_rfl) (by kernel_rfl)) ?_
  intro W base args ds gs before hval0 hW hcnd hsz0 _
  have hval : ∀ (j : Nat) t v, Try.f10.params[j]? = some t → args[j]? = some v → Value.okWide Try.prog W .any base t v := hval0
  have hW' := hW
  obtain ⟨p, q, hA0, hV, rfl, hfz, hnd⟩ := hW
  have hA : DataW.TrodAll enc Try.prog W 0 (fun _ => true) true Try.f10.params.toList args.toList ds p := hA0
  rw [Try.params10] at hA hval
  obtain ⟨v0, vs0, d0, ds0, p0, q0, hargs, rfl, rfl, h0, r0⟩ := trodAll_cons hA
  obtain ⟨v1, vs1, d1, ds1, p1, q1, rfl, rfl, rfl, h1, r1⟩ := trodAll_cons r0
  obtain ⟨v2, vs2, d2, ds2, p2, q2, rfl, rfl, rfl, h2, r2⟩ := trodAll_cons r1
  obtain ⟨v3, vs3, d3, ds3, p3, q3, rfl, rfl, rfl, h3, r3⟩ := trodAll_cons r2
  obtain ⟨v4, vs4, d4, ds4, p4, q4, rfl, rfl, rfl, h4, r4⟩ := trodAll_cons r3
  obtain ⟨rfl, rfl, rfl⟩ := trodAll_nil r4
  obtain rfl : args = #[v0, v1, v2, v3, v4] := by cases args; simp_all
  obtain ⟨rfl, rfl⟩ := trodVars_none hV
  have k0 := h0
  have lt0 : ∀ x ∈ p0, x.block < W.heap.size := by obtain ⟨m, hm⟩ := k0; exact DataW.trod_lt m _ _ _ hm
  obtain ⟨c0, rfl, L0_0⟩ := open_leaves Try.underlying25 (ks := [true, true, true, true, true, true, true, true, true, true, true, true, true, true, true, true]) (by kernel_rfl) (hval 0 25 v0 rfl rfl) h0
  obtain ⟨a0_0, c0, rfl, b0_0, L0_1⟩ := Leafs.int_inv L0_0
  obtain ⟨a0_1, c0, rfl, b0_1, L0_2⟩ := Leafs.int_inv L0_1
  obtain ⟨a0_2, c0, rfl, b0_2, L0_3⟩ := Leafs.int_inv L0_2
  obtain ⟨a0_3, c0, rfl, b0_3, L0_4⟩ := Leafs.int_inv L0_3
  obtain ⟨a0_4, c0, rfl, b0_4, L0_5⟩ := Leafs.int_inv L0_4
  obtain ⟨a0_5, c0, rfl, b0_5, L0_6⟩ := Leafs.int_inv L0_5
  obtain ⟨a0_6, c0, rfl, b0_6, L0_7⟩ := Leafs.int_inv L0_6
  obtain ⟨a0_7, c0, rfl, b0_7, L0_8⟩ := Leafs.int_inv L0_7
  obtain ⟨a0_8, c0, rfl, b0_8, L0_9⟩ := Leafs.int_inv L0_8
  obtain ⟨a0_9, c0, rfl, b0_9, L0_10⟩ := Leafs.int_inv L0_9
  obtain ⟨a0_10, c0, rfl, b0_10, L0_11⟩ := Leafs.int_inv L0_10
  obtain ⟨a0_11, c0, rfl, b0_11, L0_12⟩ := Leafs.int_inv L0_11
  obtain ⟨a0_12, c0, rfl, b0_12, L0_13⟩ := Leafs.int_inv L0_12
  obtain ⟨a0_13, c0, rfl, b0_13, L0_14⟩ := Leafs.int_inv L0_13
  obtain ⟨a0_14, c0, rfl, b0_14, L0_15⟩ := Leafs.int_inv L0_14
  obtain ⟨a0_15, c0, rfl, b0_15, L0_16⟩ := Leafs.int_inv L0_15
  obtain rfl := Leafs.nil_inv L0_16
  have k1 := h1
  have lt1 : ∀ x ∈ p1, x.block < W.heap.size := by obtain ⟨m, hm⟩ := k1; exact DataW.trod_lt m _ _ _ hm
  obtain ⟨a1, rfl, rfl, rfl, u1⟩ := open_int Try.underlying3 (hval 1 3 v1 rfl rfl) h1
  have b1 := wf64 u1
  have k2 := h2
  have lt2 : ∀ x ∈ p2, x.block < W.heap.size := by obtain ⟨m, hm⟩ := k2; exact DataW.trod_lt m _ _ _ hm
  obtain ⟨c2, rfl, L2_0⟩ := open_leaves Try.underlying23 (ks := [false, true]) (by kernel_rfl) (hval 2 23 v2 rfl rfl) h2
  obtain ⟨a2_0, c2, rfl, L2_1⟩ := Leafs.bool_inv L2_0
  obtain ⟨a2_1, c2, rfl, b2_1, L2_2⟩ := Leafs.int_inv L2_1
  obtain rfl := Leafs.nil_inv L2_2
  have k3 := h3
  have lt3 : ∀ x ∈ p3, x.block < W.heap.size := by obtain ⟨m, hm⟩ := k3; exact DataW.trod_lt m _ _ _ hm
  obtain ⟨c3, rfl, L3_0⟩ := open_leaves Try.underlying32 (ks := [true, true, true, true, true, true, true]) (by kernel_rfl) (hval 3 32 v3 rfl rfl) h3
  obtain ⟨a3_0, c3, rfl, b3_0, L3_1⟩ := Leafs.int_inv L3_0
  obtain ⟨a3_1, c3, rfl, b3_1, L3_2⟩ := Leafs.int_inv L3_1
  obtain ⟨a3_2, c3, rfl, b3_2, L3_3⟩ := Leafs.int_inv L3_2
  obtain ⟨a3_3, c3, rfl, b3_3, L3_4⟩ := Leafs.int_inv L3_3
  obtain ⟨a3_4, c3, rfl, b3_4, L3_5⟩ := Leafs.int_inv L3_4
  obtain ⟨a3_5, c3, rfl, b3_5, L3_6⟩ := Leafs.int_inv L3_5
  obtain ⟨a3_6, c3, rfl, b3_6, L3_7⟩ := Leafs.int_inv L3_6
  obtain rfl := Leafs.nil_inv L3_7
  have k4 := h4
  have lt4 : ∀ x ∈ p4, x.block < W.heap.size := by obtain ⟨m, hm⟩ := k4; exact DataW.trod_lt m _ _ _ hm
  obtain ⟨c4, rfl, L4_0⟩ := open_leaves Try.underlying68 (ks := [true, true, true, true, true, true, true, true, true]) (by kernel_rfl) (hval 4 68 v4 rfl rfl) h4
  obtain ⟨a4_0, c4, rfl, b4_0, L4_1⟩ := Leafs.int_inv L4_0
  obtain ⟨a4_1, c4, rfl, b4_1, L4_2⟩ := Leafs.int_inv L4_1
  obtain ⟨a4_2, c4, rfl, b4_2, L4_3⟩ := Leafs.int_inv L4_2
  obtain ⟨a4_3, c4, rfl, b4_3, L4_4⟩ := Leafs.int_inv L4_3
  obtain ⟨a4_4, c4, rfl, b4_4, L4_5⟩ := Leafs.int_inv L4_4
  obtain ⟨a4_5, c4, rfl, b4_5, L4_6⟩ := Leafs.int_inv L4_5
  obtain ⟨a4_6, c4, rfl, b4_6, L4_7⟩ := Leafs.int_inv L4_6
  obtain ⟨a4_7, c4, rfl, b4_7, L4_8⟩ := Leafs.int_inv L4_7
  obtain ⟨a4_8, c4, rfl, b4_8, L4_9⟩ := Leafs.int_inv L4_8
  obtain rfl := Leafs.nil_inv L4_9
  clear hA0 hval0 hsz0
  refine (admitChanges_walk W a0_0 a0_1 a0_2 a0_3 a0_4 a0_5 a0_6 a0_7 a0_8 a0_9 a0_10 a0_11 a0_12 a0_13 a0_14 a0_15 a1 a2_0 a2_1 a3_0 a3_1 a3_2 a3_3 a3_4 a3_5 a3_6 a4_0 a4_1 a4_2 a4_3 a4_4 a4_5 a4_6 a4_7 a4_8 b0_0 b0_1 b0_2 b0_3 b0_4 b0_5 b0_6 b0_7 b0_8 b0_9 b0_10 b0_11 b0_12 b0_13 b0_14 b0_15 b1 b2_1 b3_0 b3_1 b3_2 b3_3 b3_4 b3_5 b3_6 b4_0 b4_1 b4_2 b4_3 b4_4 b4_5 b4_6 b4_7 b4_8).mono fun e W' ⟨he, bel⟩ => ?_
  subst he
  exact ⟨_, rfl, _, _, _, [], _, [], hW', trodAll_mk1 (shut_bool Try.underlying4 _), (trodAll_cons_mk (Below.trod laidOut (by kernel_rfl) (of_decide_eq_true (by kernel_rfl)) k0 bel lt0) (trodAll_cons_mk (Below.trod laidOut (by kernel_rfl) (of_decide_eq_true (by kernel_rfl)) k1 bel lt1) (trodAll_cons_mk (Below.trod laidOut (by kernel_rfl) (of_decide_eq_true (by kernel_rfl)) k2 bel lt2) (trodAll_cons_mk (Below.trod laidOut (by kernel_rfl) (of_decide_eq_true (by kernel_rfl)) k3 bel lt3) (trodAll_cons_mk (Below.trod laidOut (by kernel_rfl) (of_decide_eq_true (by kernel_rfl)) k4 bel lt4) trodAll_mk0))))), rfl, bel.frame _, fun h => by cases h⟩
theorem over : Rows.admitChangesRow.holds Try.pinned (OpenSpec.ofChange Rows.admitChangesSpec) :=
  OpenClaim.holds_of_wide 10 Try.f10 rfl rfl rfl rfl rfl rfl rfl ⟨rfl, rfl, rfl, rfl, rfl⟩ rfl rfl rfl rfl rfl (by kernel_rfl) Try.func10 (by kernel_rfl)
    (of_decide_eq_true (by kernel_rfl)) (by unfold Func.isWrapper; first | (rw [if_pos (by decide +kernel)]; kernel_rfl) | (rw [if_neg (by decide +kernel)]; exact ⟨rfl, rfl⟩))
    (fun os started H enc _ => lifted os started H enc)
theorem proved : Rows.AdmitChangesSaid := over
#print axioms proved
end Go.Proofs.Ytgddmkgmpibpgaa.admitChanges
namespace Go.Proofs.Ytgddmkgmpibpgaa
theorem admitChanges_holds : Rows.AdmitChangesSaid := admitChanges.proved
end Go.Proofs.Ytgddmkgmpibpgaa
