/- The arena of slots: Get, Set, Drop, walked. -/
import Derived.Test.YtkimldeagndgjaaArD
import Derived.Outline
namespace Go.Proofs.Ytkimldeagndgjaa
set_option linter.unusedVariables false
set_option linter.unusedSimpArgs false
open Go.RowKit

set_option maxRecDepth 20000 in
theorem arGet_has (w : World) (ba N n : Nat) (fl : List Nat) (m : Nat → Option Ord) (h : ArI w ba N fl m) (o : Ord) (hn : m n = some o) :
    Calls Try.prog 95 #[.pointer (some ⟨ba, 0, none⟩), .int .i64 n] w fun e w' => e = .returned (.tuple #[.agg o.a, .bool true]) ∧ Fr [] w w' := by
  obtain ⟨ord, nx, hb, hch, hm, hf⟩ := h.b
  have hN := h.N2
  have hnN : n < N := by
    rcases Nat.lt_or_ge n N with e | e
    · exact e
    · rw [h.out n e] at hn; cases hn
  have i1 : n < 500 := by omega
  obtain ⟨ho, hx⟩ := hm n o hn
  have HX := Lib.hid hx
  have HO := Lib.hid ho
  have HB := Lib.hid hb
  clear hx ho hm hf hch hn hb
  go_enter Try.func95, Try.ntmps95
  go_wp2_with fail
  refine (arAt_in _ ba N ord nx _ _ (HB.out.alloc _) hN n hnN HX.out).mono ?_
  rintro e w1 ⟨rfl, rfl⟩
  go_wp2_with (refine wpList_loadOrd rfl (.tmp 14) rfl o rfl (HB.out.alloc _) i1 HO.out ?_)
  exact bodyPost_ret (v := .tuple #[.agg o.a, .bool true]) (by simp [results, Try.results95, go_sem]) rfl ⟨rfl, by with_reducible repeat (first | exact Fr.refl _ _ | assumption | apply Fr.drew | apply Fr.drewN | apply Fr.alloc | (apply Fr.step; assumption; (intro _ h; (first | exact h | (focus (simp_all; done))))) | (apply Fr.setIn; (first | exact List.mem_cons_self | exact List.mem_cons_of_mem _ List.mem_cons_self | exact List.mem_cons_of_mem _ (List.mem_cons_of_mem _ List.mem_cons_self) | exact List.mem_cons_of_mem _ (List.mem_cons_of_mem _ (List.mem_cons_of_mem _ List.mem_cons_self)))) | (apply Fr.setNew; (first | omega | (simp; omega))))⟩

set_option maxRecDepth 20000 in
theorem arSet_has (w : World) (ba N n : Nat) (fl : List Nat) (m : Nat → Option Ord) (h : ArI w ba N fl m) (o o' : Ord) (hn : m n = some o') :
    Calls Try.prog 106 #[.pointer (some ⟨ba, 0, none⟩), .int .i64 n, .agg o.a] w fun e w' => e = .returned (.bool true) ∧ Fr [ba] w w' ∧ ArI w' ba N fl (updO m n (some o)) := by
  obtain ⟨ord, nx, hb, hch, hm, hf⟩ := h.b
  have hN := h.N2
  have hnN : n < N := by
    rcases Nat.lt_or_ge n N with e | e
    · exact e
    · rw [h.out n e] at hn; cases hn
  have i1 : n < 500 := by omega
  obtain ⟨ho, hx⟩ := hm n o' hn
  have HX := Lib.hid hx
  have HB := Lib.hid hb
  have HM := Lib.hid hm
  have HN := Lib.hid hn
  clear hx ho hm hb hn
  go_enter Try.func106, Try.ntmps106
  go_wp2_with fail
  refine (arAt_in _ ba N ord nx _ _ (HB.out.alloc _) hN n hnN HX.out).mono ?_
  rintro e w1 ⟨rfl, rfl⟩
  go_wp2_with (refine wpList_storeOrd rfl (.tmp 16) (.tmp 14) rfl o rfl rfl (HB.out.alloc _) i1 ?_
               intro w2 hb2 F2)
  go_ret
  refine ⟨rfl, Fr.trans (by with_reducible repeat (first | exact Fr.refl _ _ | assumption | apply Fr.drew | apply Fr.drewN | apply Fr.alloc | (apply Fr.step; assumption; (intro _ h; (first | exact h | (focus (simp_all; done))))) | (apply Fr.setIn; (first | exact List.mem_cons_self | exact List.mem_cons_of_mem _ List.mem_cons_self | exact List.mem_cons_of_mem _ (List.mem_cons_of_mem _ List.mem_cons_self) | exact List.mem_cons_of_mem _ (List.mem_cons_of_mem _ (List.mem_cons_of_mem _ List.mem_cons_self)))) | (apply Fr.setNew; (first | omega | (simp; omega))))) F2, ⟨⟨_, _, hb2, hch, ?_, hf⟩, h.nd, ?_, ?_, h.N1, h.N2, h.len⟩⟩
  · intro j p hj
    by_cases e : j = n
    · subst e
      rw [updO_same] at hj; injection hj with hj
      exact ⟨by rw [updO_same, hj], HX.out⟩
    · rw [updO_ne e] at hj
      rw [updO_ne e]; exact HM.out j p hj
  · intro j
    have := h.mem j
    by_cases e : j = n
    · subst e
      rw [HN.out] at this
      simp [updO_same, this]
    · rw [updO_ne e, ← this]
  · intro j hj
    rw [updO_ne (by omega)]; exact h.out j hj

set_option maxRecDepth 20000 in
set_option maxHeartbeats 1000000 in
theorem arDrop_has (w : World) (ba N n : Nat) (fl : List Nat) (m : Nat → Option Ord) (h : ArI w ba N fl m) (o : Ord) (hn : m n = some o) :
    Calls Try.prog 138 #[.pointer (some ⟨ba, 0, none⟩), .int .i64 n] w fun e w' => e = .returned (.bool true) ∧ Fr [ba] w w' ∧ ArI w' ba N (n :: fl) (updO m n none) := by
  obtain ⟨ord, nx, hb, hch, hm, hf⟩ := h.b
  have hN := h.N2
  have hnN : n < N := by
    rcases Nat.lt_or_ge n N with e | e
    · exact e
    · rw [h.out n e] at hn; cases hn
  have hnfl : n ∉ fl := by
    intro hh
    rw [((h.mem n).1 hh).2] at hn; cases hn
  have hlen : fl.length < N := by
    have h1 : (n :: fl).Nodup := List.nodup_cons.2 ⟨hnfl, h.nd⟩
    have h2 : (n :: fl).length ≤ (List.range N).length := (List.nodup_iff_count.1 h1 |> fun _ => List.Nodup.length_le_of_subset h1 (by
      intro j hj
      rcases List.mem_cons.1 hj with rfl | hj
      · simpa using hnN
      · simpa using ((h.mem j).1 hj).1))
    simp at h2; omega
  have i0 : (0 : Int) ≤ (n : Int) := by omega
  have i1 : n < 500 := by omega
  have hwr : IntKind.i64.wrap ((N : Int) - fl.length - 1) = (N : Int) - (fl.length + 1) := by rw [IntWalk.i64_in _ (by omega)]; omega
  obtain ⟨ho, hx⟩ := hm n o hn
  have HX := Lib.hid hx
  have HB := Lib.hid hb
  have HM := Lib.hid hm
  have HF := Lib.hid hf
  have HC := Lib.hid hch
  have q1 := hb.free
  have q2 := hb.used
  have f1 := hb.frozen 4001
  have f2 := hb.frozen 4002
  have l1 := hb.lt
  clear hx ho hm hb hn hf hch
  go_enter Try.func138, Try.ntmps138
  go_wp2_with fail
  refine (arAt_in _ ba N ord nx _ _ HB.out hN n hnN HX.out).mono ?_
  rintro e w1 ⟨rfl, rfl⟩
  go_wp2_with (refine wpList_storeSlot rfl (.tmp 17) (.tmp 16) rfl ord0 (hdI fl) rfl rfl HB.out i1 ?_
               intro w2 hb2 F2
               have q1 := hb2.free
               have q2 := hb2.used
               have f1 := hb2.frozen 4001
               have f2 := hb2.frozen 4002
               have l1 := hb2.lt)
  go_ret
  refine ⟨rfl, (F2.setIn (by simp)).setIn (by simp), ⟨⟨_, _, (hb2.setFree n).setUsed ((N : Int) - (fl.length + 1)), ⟨updO_same _ _ _, ChainA.upd hnfl HC.out⟩, ?_, ?_⟩, List.nodup_cons.2 ⟨hnfl, h.nd⟩, ?_, ?_, h.N1, h.N2, by simp; omega⟩⟩
  · intro j p hj
    by_cases e : j = n
    · subst e
      rw [updO_same] at hj; cases hj
    · rw [updO_ne e] at hj
      rw [updO_ne e, updO_ne e]; exact HM.out j p hj
  · intro j hj
    rcases List.mem_cons.1 hj with rfl | hj
    · rw [updO_same]
      cases fl with
      | nil => simp [hdI]
      | cons a r => simp [hdI]
    · rw [updO_ne (show j ≠ n from fun e => hnfl (e ▸ hj))]; exact HF.out j hj
  · intro j
    have := h.mem j
    by_cases e : j = n
    · subst e
      simp [updO_same, hnN]
    · rw [updO_ne e, ← this]; simp [e]
  · intro j hj
    rw [updO_ne (by omega)]; exact h.out j hj
end Go.Proofs.Ytkimldeagndgjaa
