/-
  No cell of these rows narrows 'for every input' (looked for: loops, veiled, ifaces, maps, wideKeys, modest, calm, conditions, laid).
  DERIVED. THE GIVEN ROWS OF THIS SEAT. 10 by the template 'for every input the law returns true; each argument reads behind the call as it read before'; 0 by the template 'total and deterministic' (their statements: YtgddmkgmpibpgaaTotals.lean).
  GIVEN WITH THE SEED: the statements are not yours to turn. If you find one false, say at which input.
  Laid BY PROGRAM, IN A SANDBOX (cutbox-rows.mjs): the forced cells as the released guide's own fill.sh prints them over the translation 71f84316c592f64f… (all of the seat's roots in one cut). By AI agents, Wed Nov 11 2026. No macro, syntax, notation, axiom, sorry.
-/
import Derived.Test.YtgddmkgmpibpgaaChecked
import GoSem.Claim
import GoSem.ClaimJoined
import GoSem.ClaimMapViews
import Derived.JoinedTies
import Derived.KernelRfl
namespace Go.Proofs.Ytgddmkgmpibpgaa
/- THE CELL 'sum', in the pinned program and in every row, IS THE sha256 OF THE DUMP (.gsa) THAT YtgddmkgmpibpgaaProg.lean LOADS. Nothing in Lean hashes anything: it is a label: what it is worth is what the hold of that sum in a sandbox is worth. -/
noncomputable def Try.pinned : Pinned := { name := "ytgddmkgmpibpgaa", sum := "71f84316c592f64fa3e327d3b86082e2b9c4791bc784162df1c4cb00f71e4a78", checked := Try.checked }
namespace Rows
def none {H : Type} : Left H := { results := [], args := [] }

/-- 'damperlaw24.ShortLeast': WHATEVER THE INPUT: true; the input reads as it did. -/
def shortLeastSpec : ChangeSpec := { name := "shortLeast", fn := fun _ => fun
  | [d1, d2] => { results := [.lit (.bool true)], args := [d1, d2] }
  | _ => none }
def shortLeastRow : OpenClaim := { program := "ytgddmkgmpibpgaa", sum := "71f84316c592f64fa3e327d3b86082e2b9c4791bc784162df1c4cb00f71e4a78", func := "damper/damperlaw24.ShortLeast", spec := "shortLeast", apart := false }
def ShortLeastSaid : Prop := shortLeastRow.holds Try.pinned (OpenSpec.ofChange shortLeastSpec)

/-- ITS FALSE NEIGHBOUR: 'it returns false'. Refute it at one input. -/
def shortLeastWrong : ChangeSpec := { name := "shortLeast", fn := fun _ => fun
  | [d1, d2] => { results := [.lit (.bool false)], args := [d1, d2] }
  | _ => none }
def ShortLeastWrongFalsely : Prop := shortLeastRow.holds Try.pinned (OpenSpec.ofChange shortLeastWrong)

/-- 'damperlaw24.ShortMays': WHATEVER THE INPUT: true; the input reads as it did. -/
def shortMaysSpec : ChangeSpec := { name := "shortMays", fn := fun _ => fun
  | [d1, d2, d3, d4, d5] => { results := [.lit (.bool true)], args := [d1, d2, d3, d4, d5] }
  | _ => none }
def shortMaysRow : OpenClaim := { program := "ytgddmkgmpibpgaa", sum := "71f84316c592f64fa3e327d3b86082e2b9c4791bc784162df1c4cb00f71e4a78", func := "damper/damperlaw24.ShortMays", spec := "shortMays", unfollowed := true, recurses := true, apart := false }
def ShortMaysSaid : Prop := shortMaysRow.holds Try.pinned (OpenSpec.ofChange shortMaysSpec)

/-- ITS FALSE NEIGHBOUR: 'it returns false'. Refute it at one input. -/
def shortMaysWrong : ChangeSpec := { name := "shortMays", fn := fun _ => fun
  | [d1, d2, d3, d4, d5] => { results := [.lit (.bool false)], args := [d1, d2, d3, d4, d5] }
  | _ => none }
def ShortMaysWrongFalsely : Prop := shortMaysRow.holds Try.pinned (OpenSpec.ofChange shortMaysWrong)

/-- 'damperlaw10.FifoPlays': WHATEVER THE INPUT: true; the input reads as it did. -/
def fifoPlaysSpec : ChangeSpec := { name := "fifoPlays", fn := fun _ => fun
  | [d1, d2, d3] => { results := [.lit (.bool true)], args := [d1, d2, d3] }
  | _ => none }
def fifoPlaysRow : OpenClaim := { program := "ytgddmkgmpibpgaa", sum := "71f84316c592f64fa3e327d3b86082e2b9c4791bc784162df1c4cb00f71e4a78", func := "damper/damperlaw10.FifoPlays", spec := "fifoPlays", unfollowed := true, recurses := true, apart := false }
def FifoPlaysSaid : Prop := fifoPlaysRow.holds Try.pinned (OpenSpec.ofChange fifoPlaysSpec)

/-- ITS FALSE NEIGHBOUR: 'it returns false'. Refute it at one input. -/
def fifoPlaysWrong : ChangeSpec := { name := "fifoPlays", fn := fun _ => fun
  | [d1, d2, d3] => { results := [.lit (.bool false)], args := [d1, d2, d3] }
  | _ => none }
def FifoPlaysWrongFalsely : Prop := fifoPlaysRow.holds Try.pinned (OpenSpec.ofChange fifoPlaysWrong)

/-- 'damperlaw10.FifoOrder': WHATEVER THE INPUT: true; the input reads as it did. -/
def fifoOrderSpec : ChangeSpec := { name := "fifoOrder", fn := fun _ => fun
  | [d1, d2] => { results := [.lit (.bool true)], args := [d1, d2] }
  | _ => none }
def fifoOrderRow : OpenClaim := { program := "ytgddmkgmpibpgaa", sum := "71f84316c592f64fa3e327d3b86082e2b9c4791bc784162df1c4cb00f71e4a78", func := "damper/damperlaw10.FifoOrder", spec := "fifoOrder", unfollowed := true, recurses := true, apart := false }
def FifoOrderSaid : Prop := fifoOrderRow.holds Try.pinned (OpenSpec.ofChange fifoOrderSpec)

/-- ITS FALSE NEIGHBOUR: 'it returns false'. Refute it at one input. -/
def fifoOrderWrong : ChangeSpec := { name := "fifoOrder", fn := fun _ => fun
  | [d1, d2] => { results := [.lit (.bool false)], args := [d1, d2] }
  | _ => none }
def FifoOrderWrongFalsely : Prop := fifoOrderRow.holds Try.pinned (OpenSpec.ofChange fifoOrderWrong)

/-- 'damperlaw10.FifoEach': WHATEVER THE INPUT: true; the input reads as it did. -/
def fifoEachSpec : ChangeSpec := { name := "fifoEach", fn := fun _ => fun
  | [d1, d2, d3, d4, d5] => { results := [.lit (.bool true)], args := [d1, d2, d3, d4, d5] }
  | _ => none }
def fifoEachRow : OpenClaim := { program := "ytgddmkgmpibpgaa", sum := "71f84316c592f64fa3e327d3b86082e2b9c4791bc784162df1c4cb00f71e4a78", func := "damper/damperlaw10.FifoEach", spec := "fifoEach", unfollowed := true, recurses := true, apart := false }
def FifoEachSaid : Prop := fifoEachRow.holds Try.pinned (OpenSpec.ofChange fifoEachSpec)

/-- ITS FALSE NEIGHBOUR: 'it returns false'. Refute it at one input. -/
def fifoEachWrong : ChangeSpec := { name := "fifoEach", fn := fun _ => fun
  | [d1, d2, d3, d4, d5] => { results := [.lit (.bool false)], args := [d1, d2, d3, d4, d5] }
  | _ => none }
def FifoEachWrongFalsely : Prop := fifoEachRow.holds Try.pinned (OpenSpec.ofChange fifoEachWrong)

/-- 'damperlaw10.FifoNils': WHATEVER THE INPUT: true; the input reads as it did. -/
def fifoNilsSpec : ChangeSpec := { name := "fifoNils", fn := fun _ => fun
  | [d1, d2] => { results := [.lit (.bool true)], args := [d1, d2] }
  | _ => none }
def fifoNilsRow : OpenClaim := { program := "ytgddmkgmpibpgaa", sum := "71f84316c592f64fa3e327d3b86082e2b9c4791bc784162df1c4cb00f71e4a78", func := "damper/damperlaw10.FifoNils", spec := "fifoNils", unfollowed := true, recurses := true, apart := false }
def FifoNilsSaid : Prop := fifoNilsRow.holds Try.pinned (OpenSpec.ofChange fifoNilsSpec)

/-- ITS FALSE NEIGHBOUR: 'it returns false'. Refute it at one input. -/
def fifoNilsWrong : ChangeSpec := { name := "fifoNils", fn := fun _ => fun
  | [d1, d2] => { results := [.lit (.bool false)], args := [d1, d2] }
  | _ => none }
def FifoNilsWrongFalsely : Prop := fifoNilsRow.holds Try.pinned (OpenSpec.ofChange fifoNilsWrong)

/-- 'damperlaw25.AdmitNews': WHATEVER THE INPUT: true; the input reads as it did. -/
def admitNewsSpec : ChangeSpec := { name := "admitNews", fn := fun _ => fun
  | [d1, d2, d3, d4, d5] => { results := [.lit (.bool true)], args := [d1, d2, d3, d4, d5] }
  | _ => none }
def admitNewsRow : OpenClaim := { program := "ytgddmkgmpibpgaa", sum := "71f84316c592f64fa3e327d3b86082e2b9c4791bc784162df1c4cb00f71e4a78", func := "damper/damperlaw25.AdmitNews", spec := "admitNews", unfollowed := true, recurses := true, apart := false }
def AdmitNewsSaid : Prop := admitNewsRow.holds Try.pinned (OpenSpec.ofChange admitNewsSpec)

/-- ITS FALSE NEIGHBOUR: 'it returns false'. Refute it at one input. -/
def admitNewsWrong : ChangeSpec := { name := "admitNews", fn := fun _ => fun
  | [d1, d2, d3, d4, d5] => { results := [.lit (.bool false)], args := [d1, d2, d3, d4, d5] }
  | _ => none }
def AdmitNewsWrongFalsely : Prop := admitNewsRow.holds Try.pinned (OpenSpec.ofChange admitNewsWrong)

/-- 'damperlaw25.AdmitChanges': WHATEVER THE INPUT: true; the input reads as it did. -/
def admitChangesSpec : ChangeSpec := { name := "admitChanges", fn := fun _ => fun
  | [d1, d2, d3, d4, d5] => { results := [.lit (.bool true)], args := [d1, d2, d3, d4, d5] }
  | _ => none }
def admitChangesRow : OpenClaim := { program := "ytgddmkgmpibpgaa", sum := "71f84316c592f64fa3e327d3b86082e2b9c4791bc784162df1c4cb00f71e4a78", func := "damper/damperlaw25.AdmitChanges", spec := "admitChanges", unfollowed := true, recurses := true, apart := false }
def AdmitChangesSaid : Prop := admitChangesRow.holds Try.pinned (OpenSpec.ofChange admitChangesSpec)

/-- ITS FALSE NEIGHBOUR: 'it returns false'. Refute it at one input. -/
def admitChangesWrong : ChangeSpec := { name := "admitChanges", fn := fun _ => fun
  | [d1, d2, d3, d4, d5] => { results := [.lit (.bool false)], args := [d1, d2, d3, d4, d5] }
  | _ => none }
def AdmitChangesWrongFalsely : Prop := admitChangesRow.holds Try.pinned (OpenSpec.ofChange admitChangesWrong)

/-- 'damperlaw11.LadderSorts': WHATEVER THE INPUT: true; the input reads as it did. -/
def ladderSortsSpec : ChangeSpec := { name := "ladderSorts", fn := fun _ => fun
  | [d1, d2] => { results := [.lit (.bool true)], args := [d1, d2] }
  | _ => none }
def ladderSortsRow : OpenClaim := { program := "ytgddmkgmpibpgaa", sum := "71f84316c592f64fa3e327d3b86082e2b9c4791bc784162df1c4cb00f71e4a78", func := "damper/damperlaw11.LadderSorts", spec := "ladderSorts", inPlace := ["slices.overlaps[damper/ladder.Level]"], unfollowed := true, recurses := true, apart := false }
def LadderSortsSaid : Prop := ladderSortsRow.holds Try.pinned (OpenSpec.ofChange ladderSortsSpec)

/-- ITS FALSE NEIGHBOUR: 'it returns false'. Refute it at one input. -/
def ladderSortsWrong : ChangeSpec := { name := "ladderSorts", fn := fun _ => fun
  | [d1, d2] => { results := [.lit (.bool false)], args := [d1, d2] }
  | _ => none }
def LadderSortsWrongFalsely : Prop := ladderSortsRow.holds Try.pinned (OpenSpec.ofChange ladderSortsWrong)

/-- 'damperlaw11.LadderNils': WHATEVER THE INPUT: true; the input reads as it did. -/
def ladderNilsSpec : ChangeSpec := { name := "ladderNils", fn := fun _ => fun
  | [d1, d2] => { results := [.lit (.bool true)], args := [d1, d2] }
  | _ => none }
def ladderNilsRow : OpenClaim := { program := "ytgddmkgmpibpgaa", sum := "71f84316c592f64fa3e327d3b86082e2b9c4791bc784162df1c4cb00f71e4a78", func := "damper/damperlaw11.LadderNils", spec := "ladderNils", inPlace := ["slices.overlaps[damper/ladder.Level]"], unfollowed := true, recurses := true, apart := false }
def LadderNilsSaid : Prop := ladderNilsRow.holds Try.pinned (OpenSpec.ofChange ladderNilsSpec)

/-- ITS FALSE NEIGHBOUR: 'it returns false'. Refute it at one input. -/
def ladderNilsWrong : ChangeSpec := { name := "ladderNils", fn := fun _ => fun
  | [d1, d2] => { results := [.lit (.bool false)], args := [d1, d2] }
  | _ => none }
def LadderNilsWrongFalsely : Prop := ladderNilsRow.holds Try.pinned (OpenSpec.ofChange ladderNilsWrong)

/- THE SECOND FORM. 'bulk': how many values and letters a reading holds, each counted each time it is reached (what is shared counts as often as it is met; a slice's spare places count too). A statement '..UptoSaid' is the law's where the arguments, and the package variables that the reading takes, are together of bulk at most 1048576: NARROWER than '..Said'. Prove '..Said' where nothing that the law and all that it calls make is longer than what came in: it says more and counts as full. Else prove '..UptoSaid'. A law counts once. -/
mutual
def uptoBulk {H : Type} : DataW H → Nat
  | .lit (.string bytes) => bytes.length + 1
  | .lit _ => 1
  | .nil => 1
  | .ptr d => uptoBulk d + 1
  | .slice elems spare => uptoBulkAll elems + uptoBulkAll spare + 1
  | .agg parts => uptoBulkAll parts + 1
  | .iface _ d => uptoBulk d + 1
  | .map entries => uptoBulkEntries entries + 1
  | .held _ => 1
def uptoBulkAll {H : Type} : List (DataW H) → Nat
  | [] => 0
  | d :: r => uptoBulk d + uptoBulkAll r
def uptoBulkEntries {H : Type} : List (Lit × DataW H) → Nat
  | [] => 0
  | x :: r => uptoBulkEntry x + uptoBulkEntries r
def uptoBulkEntry {H : Type} : Lit × DataW H → Nat
  | (.string bytes, d) => bytes.length + uptoBulk d + 1
  | (_, d) => uptoBulk d + 1
 end
def uptoSmall : (H : Type) → List (DataW H) → Bool := fun _ ds => decide (uptoBulkAll ds ≤ 1048576)
def OpenSpec.upto (s : _root_.Go.ChangeSpec) : _root_.Go.OpenSpec := { _root_.Go.OpenSpec.ofChange s with cond := some uptoSmall }

/-- 'damperlaw24.ShortLeast', WHERE WHAT IT READS IS OF BULK AT MOST 1048576: true; the input reads as it did. -/
def shortLeastUptoRow : OpenClaim := { program := "ytgddmkgmpibpgaa", sum := "71f84316c592f64fa3e327d3b86082e2b9c4791bc784162df1c4cb00f71e4a78", func := "damper/damperlaw24.ShortLeast", spec := "shortLeast", apart := false, narrowed := true }
def ShortLeastUptoSaid : Prop := shortLeastUptoRow.holds Try.pinned (OpenSpec.upto shortLeastSpec)

/-- 'damperlaw24.ShortMays', WHERE WHAT IT READS IS OF BULK AT MOST 1048576: true; the input reads as it did. -/
def shortMaysUptoRow : OpenClaim := { program := "ytgddmkgmpibpgaa", sum := "71f84316c592f64fa3e327d3b86082e2b9c4791bc784162df1c4cb00f71e4a78", func := "damper/damperlaw24.ShortMays", spec := "shortMays", unfollowed := true, recurses := true, apart := false, narrowed := true }
def ShortMaysUptoSaid : Prop := shortMaysUptoRow.holds Try.pinned (OpenSpec.upto shortMaysSpec)

/-- 'damperlaw10.FifoPlays', WHERE WHAT IT READS IS OF BULK AT MOST 1048576: true; the input reads as it did. -/
def fifoPlaysUptoRow : OpenClaim := { program := "ytgddmkgmpibpgaa", sum := "71f84316c592f64fa3e327d3b86082e2b9c4791bc784162df1c4cb00f71e4a78", func := "damper/damperlaw10.FifoPlays", spec := "fifoPlays", unfollowed := true, recurses := true, apart := false, narrowed := true }
def FifoPlaysUptoSaid : Prop := fifoPlaysUptoRow.holds Try.pinned (OpenSpec.upto fifoPlaysSpec)

/-- 'damperlaw10.FifoOrder', WHERE WHAT IT READS IS OF BULK AT MOST 1048576: true; the input reads as it did. -/
def fifoOrderUptoRow : OpenClaim := { program := "ytgddmkgmpibpgaa", sum := "71f84316c592f64fa3e327d3b86082e2b9c4791bc784162df1c4cb00f71e4a78", func := "damper/damperlaw10.FifoOrder", spec := "fifoOrder", unfollowed := true, recurses := true, apart := false, narrowed := true }
def FifoOrderUptoSaid : Prop := fifoOrderUptoRow.holds Try.pinned (OpenSpec.upto fifoOrderSpec)

/-- 'damperlaw10.FifoEach', WHERE WHAT IT READS IS OF BULK AT MOST 1048576: true; the input reads as it did. -/
def fifoEachUptoRow : OpenClaim := { program := "ytgddmkgmpibpgaa", sum := "71f84316c592f64fa3e327d3b86082e2b9c4791bc784162df1c4cb00f71e4a78", func := "damper/damperlaw10.FifoEach", spec := "fifoEach", unfollowed := true, recurses := true, apart := false, narrowed := true }
def FifoEachUptoSaid : Prop := fifoEachUptoRow.holds Try.pinned (OpenSpec.upto fifoEachSpec)

/-- 'damperlaw10.FifoNils', WHERE WHAT IT READS IS OF BULK AT MOST 1048576: true; the input reads as it did. -/
def fifoNilsUptoRow : OpenClaim := { program := "ytgddmkgmpibpgaa", sum := "71f84316c592f64fa3e327d3b86082e2b9c4791bc784162df1c4cb00f71e4a78", func := "damper/damperlaw10.FifoNils", spec := "fifoNils", unfollowed := true, recurses := true, apart := false, narrowed := true }
def FifoNilsUptoSaid : Prop := fifoNilsUptoRow.holds Try.pinned (OpenSpec.upto fifoNilsSpec)

/-- 'damperlaw25.AdmitNews', WHERE WHAT IT READS IS OF BULK AT MOST 1048576: true; the input reads as it did. -/
def admitNewsUptoRow : OpenClaim := { program := "ytgddmkgmpibpgaa", sum := "71f84316c592f64fa3e327d3b86082e2b9c4791bc784162df1c4cb00f71e4a78", func := "damper/damperlaw25.AdmitNews", spec := "admitNews", unfollowed := true, recurses := true, apart := false, narrowed := true }
def AdmitNewsUptoSaid : Prop := admitNewsUptoRow.holds Try.pinned (OpenSpec.upto admitNewsSpec)

/-- 'damperlaw25.AdmitChanges', WHERE WHAT IT READS IS OF BULK AT MOST 1048576: true; the input reads as it did. -/
def admitChangesUptoRow : OpenClaim := { program := "ytgddmkgmpibpgaa", sum := "71f84316c592f64fa3e327d3b86082e2b9c4791bc784162df1c4cb00f71e4a78", func := "damper/damperlaw25.AdmitChanges", spec := "admitChanges", unfollowed := true, recurses := true, apart := false, narrowed := true }
def AdmitChangesUptoSaid : Prop := admitChangesUptoRow.holds Try.pinned (OpenSpec.upto admitChangesSpec)

/-- 'damperlaw11.LadderSorts', WHERE WHAT IT READS IS OF BULK AT MOST 1048576: true; the input reads as it did. -/
def ladderSortsUptoRow : OpenClaim := { program := "ytgddmkgmpibpgaa", sum := "71f84316c592f64fa3e327d3b86082e2b9c4791bc784162df1c4cb00f71e4a78", func := "damper/damperlaw11.LadderSorts", spec := "ladderSorts", inPlace := ["slices.overlaps[damper/ladder.Level]"], unfollowed := true, recurses := true, apart := false, narrowed := true }
def LadderSortsUptoSaid : Prop := ladderSortsUptoRow.holds Try.pinned (OpenSpec.upto ladderSortsSpec)

/-- 'damperlaw11.LadderNils', WHERE WHAT IT READS IS OF BULK AT MOST 1048576: true; the input reads as it did. -/
def ladderNilsUptoRow : OpenClaim := { program := "ytgddmkgmpibpgaa", sum := "71f84316c592f64fa3e327d3b86082e2b9c4791bc784162df1c4cb00f71e4a78", func := "damper/damperlaw11.LadderNils", spec := "ladderNils", inPlace := ["slices.overlaps[damper/ladder.Level]"], unfollowed := true, recurses := true, apart := false, narrowed := true }
def LadderNilsUptoSaid : Prop := ladderNilsUptoRow.holds Try.pinned (OpenSpec.upto ladderNilsSpec)

end Rows
end Go.Proofs.Ytgddmkgmpibpgaa
