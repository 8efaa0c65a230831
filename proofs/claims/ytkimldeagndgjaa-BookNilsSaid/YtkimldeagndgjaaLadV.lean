/- The ladder: two rows of levels in two blocks do not overlap (the model's own entry). -/
import Derived.Test.YtkimldeagndgjaaLadC
import Derived.Test.YtkimldeagndgjaaCopy
import Derived.Lib.Overlaps
import Derived.Laws.Externs
namespace Go.Proofs.Ytkimldeagndgjaa
set_option linter.unusedVariables false
set_option linter.unusedSimpArgs false
open Go.RowKit

theorem info_lvl0 : (Try.prog.info? 159).map (fun i => (i.zero, i.size, i.bytes)) = some (some (.agg #[.int .i64 0, .int .i64 0, .int .i64 0, .int .i64 0]), 4, 32) := by kernel_rfl
theorem overlaps_apart (w : World) (gx lb o m c : Nat) (cs cur : Array Value) (B1 : Blk w gx 159 cs) (B2 : Blk w lb 159 cur) (hne : gx ≠ lb) (hs : cur.size ≠ 0) :
    (callFunc 164 #[.slice (some ⟨gx, 0, none⟩) 1 1, .slice (some ⟨lb, o, none⟩) m c]).run Try.prog w = .ok (.value (.bool false)) w := by
  obtain ⟨ii, hii, _, hz1, _⟩ := info_parts info_lvl0
  have e1 : w.shape? gx = some (159, cs.size) := by unfold World.shape?; rw [show w.heap[gx]? = _ from B1]
  have e2 : w.shape? lb = some (159, cur.size) := by unfold World.shape?; rw [show w.heap[lb]? = _ from B2]
  rw [run_callFunc_extern Try.func164 (by kernel_rfl) (by kernel_rfl) (by kernel_rfl) (e := Extern.SlicesOverlaps.overlaps #[200, 200] #[4]) (by kernel_rfl),
    Lib.run_overlaps_apart w 200 4 159 Try.underlying200 4 (fun w => by simp [sizeOf, typeInfo, hii, hz1]) ⟨gx, 0, none⟩ ⟨lb, o, none⟩ 1 1 m c hne _ _ _ _ e1 e2 hs (B1.frozen 0) (B1.frozen _)]
  rfl
end Go.Proofs.Ytkimldeagndgjaa
