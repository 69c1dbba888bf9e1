/-
  No cell of these rows narrows 'for every input' (looked for: loops, veiled, ifaces, maps, wideKeys, modest, calm, conditions, laid).
  DERIVED. THE GIVEN ROWS OF THIS SEAT. 12 by the template 'for every input the law returns true; each argument reads behind the call as it read before'; 0 by the template 'total and deterministic' (their statements: YtagpigbfbhdoiaaTotals.lean).
  GIVEN WITH THE SEED: the statements are not yours to turn. If you find one false, say at which input.
  Laid BY PROGRAM, IN A SANDBOX (cutbox-rows.mjs): the forced cells as the released guide's own fill.sh prints them over the translation 1855ee4b5428a466… (all of the seat's roots in one cut). By AI agents, Wed Nov 11 2026. No macro, syntax, notation, axiom, sorry.
-/
import Derived.Test.YtagpigbfbhdoiaaChecked
import GoSem.Claim
import GoSem.ClaimJoined
import GoSem.ClaimMapViews
import Derived.JoinedTies
import Derived.KernelRfl
namespace Go.Proofs.Ytagpigbfbhdoiaa
/- THE CELL 'sum', in the pinned program and in every row, IS THE sha256 OF THE DUMP (.gsa) THAT YtagpigbfbhdoiaaProg.lean LOADS. Nothing in Lean hashes anything: it is a label: what it is worth is what the hold of that sum in a sandbox is worth. -/
noncomputable def Try.pinned : Pinned := { name := "ytagpigbfbhdoiaa", sum := "1855ee4b5428a4662e792e136af69bc7aa31ae78545cde1466557b907f1de1c9", checked := Try.checked }
namespace Rows
def none {H : Type} : Left H := { results := [], args := [] }

/-- 'weirboxlaw49.SliceOnce': WHATEVER THE INPUT: true; the input reads as it did. -/
def sliceOnceSpec : ChangeSpec := { name := "sliceOnce", fn := fun _ => fun
  | [d1, d2, d3] => { results := [.lit (.bool true)], args := [d1, d2, d3] }
  | _ => none }
def sliceOnceRow : OpenClaim := { program := "ytagpigbfbhdoiaa", sum := "1855ee4b5428a4662e792e136af69bc7aa31ae78545cde1466557b907f1de1c9", func := "weirbox/weirboxlaw49.SliceOnce", spec := "sliceOnce", unfollowed := true, recurses := true, apart := false }
def SliceOnceSaid : Prop := sliceOnceRow.holds Try.pinned (OpenSpec.ofChange sliceOnceSpec)

/-- ITS FALSE NEIGHBOUR: 'it returns false'. Refute it at one input. -/
def sliceOnceWrong : ChangeSpec := { name := "sliceOnce", fn := fun _ => fun
  | [d1, d2, d3] => { results := [.lit (.bool false)], args := [d1, d2, d3] }
  | _ => none }
def SliceOnceWrongFalsely : Prop := sliceOnceRow.holds Try.pinned (OpenSpec.ofChange sliceOnceWrong)

/-- 'weirboxlaw08.CoverLooks': WHATEVER THE INPUT: true; the input reads as it did. -/
def coverLooksSpec : ChangeSpec := { name := "coverLooks", fn := fun _ => fun
  | [d1, d2, d3] => { results := [.lit (.bool true)], args := [d1, d2, d3] }
  | _ => none }
def coverLooksRow : OpenClaim := { program := "ytagpigbfbhdoiaa", sum := "1855ee4b5428a4662e792e136af69bc7aa31ae78545cde1466557b907f1de1c9", func := "weirbox/weirboxlaw08.CoverLooks", spec := "coverLooks", unfollowed := true, recurses := true, apart := false }
def CoverLooksSaid : Prop := coverLooksRow.holds Try.pinned (OpenSpec.ofChange coverLooksSpec)

/-- ITS FALSE NEIGHBOUR: 'it returns false'. Refute it at one input. -/
def coverLooksWrong : ChangeSpec := { name := "coverLooks", fn := fun _ => fun
  | [d1, d2, d3] => { results := [.lit (.bool false)], args := [d1, d2, d3] }
  | _ => none }
def CoverLooksWrongFalsely : Prop := coverLooksRow.holds Try.pinned (OpenSpec.ofChange coverLooksWrong)

/-- 'weirboxlaw08.CoverEnough': WHATEVER THE INPUT: true; the input reads as it did. -/
def coverEnoughSpec : ChangeSpec := { name := "coverEnough", fn := fun _ => fun
  | [d1, d2, d3] => { results := [.lit (.bool true)], args := [d1, d2, d3] }
  | _ => none }
def coverEnoughRow : OpenClaim := { program := "ytagpigbfbhdoiaa", sum := "1855ee4b5428a4662e792e136af69bc7aa31ae78545cde1466557b907f1de1c9", func := "weirbox/weirboxlaw08.CoverEnough", spec := "coverEnough", unfollowed := true, recurses := true, apart := false }
def CoverEnoughSaid : Prop := coverEnoughRow.holds Try.pinned (OpenSpec.ofChange coverEnoughSpec)

/-- ITS FALSE NEIGHBOUR: 'it returns false'. Refute it at one input. -/
def coverEnoughWrong : ChangeSpec := { name := "coverEnough", fn := fun _ => fun
  | [d1, d2, d3] => { results := [.lit (.bool false)], args := [d1, d2, d3] }
  | _ => none }
def CoverEnoughWrongFalsely : Prop := coverEnoughRow.holds Try.pinned (OpenSpec.ofChange coverEnoughWrong)

/-- 'weirboxlaw49.SliceTells': WHATEVER THE INPUT: true; the input reads as it did. -/
def sliceTellsSpec : ChangeSpec := { name := "sliceTells", fn := fun _ => fun
  | [d1, d2, d3, d4] => { results := [.lit (.bool true)], args := [d1, d2, d3, d4] }
  | _ => none }
def sliceTellsRow : OpenClaim := { program := "ytagpigbfbhdoiaa", sum := "1855ee4b5428a4662e792e136af69bc7aa31ae78545cde1466557b907f1de1c9", func := "weirbox/weirboxlaw49.SliceTells", spec := "sliceTells", unfollowed := true, recurses := true, apart := false }
def SliceTellsSaid : Prop := sliceTellsRow.holds Try.pinned (OpenSpec.ofChange sliceTellsSpec)

/-- ITS FALSE NEIGHBOUR: 'it returns false'. Refute it at one input. -/
def sliceTellsWrong : ChangeSpec := { name := "sliceTells", fn := fun _ => fun
  | [d1, d2, d3, d4] => { results := [.lit (.bool false)], args := [d1, d2, d3, d4] }
  | _ => none }
def SliceTellsWrongFalsely : Prop := sliceTellsRow.holds Try.pinned (OpenSpec.ofChange sliceTellsWrong)

/-- 'weirboxlaw49.SliceMore': WHATEVER THE INPUT: true; the input reads as it did. -/
def sliceMoreSpec : ChangeSpec := { name := "sliceMore", fn := fun _ => fun
  | [d1, d2, d3] => { results := [.lit (.bool true)], args := [d1, d2, d3] }
  | _ => none }
def sliceMoreRow : OpenClaim := { program := "ytagpigbfbhdoiaa", sum := "1855ee4b5428a4662e792e136af69bc7aa31ae78545cde1466557b907f1de1c9", func := "weirbox/weirboxlaw49.SliceMore", spec := "sliceMore", unfollowed := true, recurses := true, apart := false }
def SliceMoreSaid : Prop := sliceMoreRow.holds Try.pinned (OpenSpec.ofChange sliceMoreSpec)

/-- ITS FALSE NEIGHBOUR: 'it returns false'. Refute it at one input. -/
def sliceMoreWrong : ChangeSpec := { name := "sliceMore", fn := fun _ => fun
  | [d1, d2, d3] => { results := [.lit (.bool false)], args := [d1, d2, d3] }
  | _ => none }
def SliceMoreWrongFalsely : Prop := sliceMoreRow.holds Try.pinned (OpenSpec.ofChange sliceMoreWrong)

/-- 'weirboxlaw08.CoverMeets': WHATEVER THE INPUT: true; the input reads as it did. -/
def coverMeetsSpec : ChangeSpec := { name := "coverMeets", fn := fun _ => fun
  | [d1, d2] => { results := [.lit (.bool true)], args := [d1, d2] }
  | _ => none }
def coverMeetsRow : OpenClaim := { program := "ytagpigbfbhdoiaa", sum := "1855ee4b5428a4662e792e136af69bc7aa31ae78545cde1466557b907f1de1c9", func := "weirbox/weirboxlaw08.CoverMeets", spec := "coverMeets", unfollowed := true, recurses := true, apart := false }
def CoverMeetsSaid : Prop := coverMeetsRow.holds Try.pinned (OpenSpec.ofChange coverMeetsSpec)

/-- ITS FALSE NEIGHBOUR: 'it returns false'. Refute it at one input. -/
def coverMeetsWrong : ChangeSpec := { name := "coverMeets", fn := fun _ => fun
  | [d1, d2] => { results := [.lit (.bool false)], args := [d1, d2] }
  | _ => none }
def CoverMeetsWrongFalsely : Prop := coverMeetsRow.holds Try.pinned (OpenSpec.ofChange coverMeetsWrong)

/-- 'weirboxlaw08.CoverTells': WHATEVER THE INPUT: true; the input reads as it did. -/
def coverTellsSpec : ChangeSpec := { name := "coverTells", fn := fun _ => fun
  | [d1, d2, d3, d4] => { results := [.lit (.bool true)], args := [d1, d2, d3, d4] }
  | _ => none }
def coverTellsRow : OpenClaim := { program := "ytagpigbfbhdoiaa", sum := "1855ee4b5428a4662e792e136af69bc7aa31ae78545cde1466557b907f1de1c9", func := "weirbox/weirboxlaw08.CoverTells", spec := "coverTells", unfollowed := true, recurses := true, apart := false }
def CoverTellsSaid : Prop := coverTellsRow.holds Try.pinned (OpenSpec.ofChange coverTellsSpec)

/-- ITS FALSE NEIGHBOUR: 'it returns false'. Refute it at one input. -/
def coverTellsWrong : ChangeSpec := { name := "coverTells", fn := fun _ => fun
  | [d1, d2, d3, d4] => { results := [.lit (.bool false)], args := [d1, d2, d3, d4] }
  | _ => none }
def CoverTellsWrongFalsely : Prop := coverTellsRow.holds Try.pinned (OpenSpec.ofChange coverTellsWrong)

/-- 'weirboxlaw24.GroupDoes': WHATEVER THE INPUT: true; the input reads as it did. -/
def groupDoesSpec : ChangeSpec := { name := "groupDoes", fn := fun _ => fun
  | [d1, d2] => { results := [.lit (.bool true)], args := [d1, d2] }
  | _ => none }
def groupDoesRow : OpenClaim := { program := "ytagpigbfbhdoiaa", sum := "1855ee4b5428a4662e792e136af69bc7aa31ae78545cde1466557b907f1de1c9", func := "weirbox/weirboxlaw24.GroupDoes", spec := "groupDoes", unfollowed := true, recurses := true, apart := false }
def GroupDoesSaid : Prop := groupDoesRow.holds Try.pinned (OpenSpec.ofChange groupDoesSpec)

/-- ITS FALSE NEIGHBOUR: 'it returns false'. Refute it at one input. -/
def groupDoesWrong : ChangeSpec := { name := "groupDoes", fn := fun _ => fun
  | [d1, d2] => { results := [.lit (.bool false)], args := [d1, d2] }
  | _ => none }
def GroupDoesWrongFalsely : Prop := groupDoesRow.holds Try.pinned (OpenSpec.ofChange groupDoesWrong)

/-- 'weirboxlaw24.GroupStays': WHATEVER THE INPUT: true; the input reads as it did. -/
def groupStaysSpec : ChangeSpec := { name := "groupStays", fn := fun _ => fun
  | [d] => { results := [.lit (.bool true)], args := [d] }
  | _ => none }
def groupStaysRow : OpenClaim := { program := "ytagpigbfbhdoiaa", sum := "1855ee4b5428a4662e792e136af69bc7aa31ae78545cde1466557b907f1de1c9", func := "weirbox/weirboxlaw24.GroupStays", spec := "groupStays", unfollowed := true, recurses := true, apart := false }
def GroupStaysSaid : Prop := groupStaysRow.holds Try.pinned (OpenSpec.ofChange groupStaysSpec)

/-- ITS FALSE NEIGHBOUR: 'it returns false'. Refute it at one input. -/
def groupStaysWrong : ChangeSpec := { name := "groupStays", fn := fun _ => fun
  | [d] => { results := [.lit (.bool false)], args := [d] }
  | _ => none }
def GroupStaysWrongFalsely : Prop := groupStaysRow.holds Try.pinned (OpenSpec.ofChange groupStaysWrong)

/-- 'weirboxlaw24.GroupEnds': WHATEVER THE INPUT: true; the input reads as it did. -/
def groupEndsSpec : ChangeSpec := { name := "groupEnds", fn := fun _ => fun
  | [d1, d2, d3] => { results := [.lit (.bool true)], args := [d1, d2, d3] }
  | _ => none }
def groupEndsRow : OpenClaim := { program := "ytagpigbfbhdoiaa", sum := "1855ee4b5428a4662e792e136af69bc7aa31ae78545cde1466557b907f1de1c9", func := "weirbox/weirboxlaw24.GroupEnds", spec := "groupEnds", unfollowed := true, recurses := true, apart := false }
def GroupEndsSaid : Prop := groupEndsRow.holds Try.pinned (OpenSpec.ofChange groupEndsSpec)

/-- ITS FALSE NEIGHBOUR: 'it returns false'. Refute it at one input. -/
def groupEndsWrong : ChangeSpec := { name := "groupEnds", fn := fun _ => fun
  | [d1, d2, d3] => { results := [.lit (.bool false)], args := [d1, d2, d3] }
  | _ => none }
def GroupEndsWrongFalsely : Prop := groupEndsRow.holds Try.pinned (OpenSpec.ofChange groupEndsWrong)

/-- 'weirboxlaw24.GroupGone': WHATEVER THE INPUT: true; the input reads as it did. -/
def groupGoneSpec : ChangeSpec := { name := "groupGone", fn := fun _ => fun
  | [d1, d2] => { results := [.lit (.bool true)], args := [d1, d2] }
  | _ => none }
def groupGoneRow : OpenClaim := { program := "ytagpigbfbhdoiaa", sum := "1855ee4b5428a4662e792e136af69bc7aa31ae78545cde1466557b907f1de1c9", func := "weirbox/weirboxlaw24.GroupGone", spec := "groupGone", unfollowed := true, recurses := true, apart := false }
def GroupGoneSaid : Prop := groupGoneRow.holds Try.pinned (OpenSpec.ofChange groupGoneSpec)

/-- ITS FALSE NEIGHBOUR: 'it returns false'. Refute it at one input. -/
def groupGoneWrong : ChangeSpec := { name := "groupGone", fn := fun _ => fun
  | [d1, d2] => { results := [.lit (.bool false)], args := [d1, d2] }
  | _ => none }
def GroupGoneWrongFalsely : Prop := groupGoneRow.holds Try.pinned (OpenSpec.ofChange groupGoneWrong)

/-- 'weirboxlaw24.GroupTells': WHATEVER THE INPUT: true; the input reads as it did. -/
def groupTellsSpec : ChangeSpec := { name := "groupTells", fn := fun _ => fun
  | [d1, d2, d3, d4] => { results := [.lit (.bool true)], args := [d1, d2, d3, d4] }
  | _ => none }
def groupTellsRow : OpenClaim := { program := "ytagpigbfbhdoiaa", sum := "1855ee4b5428a4662e792e136af69bc7aa31ae78545cde1466557b907f1de1c9", func := "weirbox/weirboxlaw24.GroupTells", spec := "groupTells", unfollowed := true, recurses := true, apart := false }
def GroupTellsSaid : Prop := groupTellsRow.holds Try.pinned (OpenSpec.ofChange groupTellsSpec)

/-- ITS FALSE NEIGHBOUR: 'it returns false'. Refute it at one input. -/
def groupTellsWrong : ChangeSpec := { name := "groupTells", fn := fun _ => fun
  | [d1, d2, d3, d4] => { results := [.lit (.bool false)], args := [d1, d2, d3, d4] }
  | _ => none }
def GroupTellsWrongFalsely : Prop := groupTellsRow.holds Try.pinned (OpenSpec.ofChange groupTellsWrong)

/- THE SECOND FORM. 'bulk': how many values and letters a reading holds, each counted each time it is reached (what is shared counts as often as it is met; a slice's spare places count too). A statement '..UptoSaid' is the law's where the arguments, and the package variables that the reading takes, are together of bulk at most 1048576: NARROWER than '..Said'. Prove '..Said' where nothing that the law and all that it calls make is longer than what came in: it says more and counts as full. Else prove '..UptoSaid'. A law counts once. -/
mutual
def uptoBulk {H : Type} : DataW H → Nat
  | .lit (.string bytes) => bytes.length + 1
  | .lit _ => 1
  | .nil => 1
  | .ptr d => uptoBulk d + 1
  | .slice elems spare => uptoBulkAll elems + uptoBulkAll spare + 1
  | .agg parts => uptoBulkAll parts + 1
  | .iface _ d => uptoBulk d + 1
  | .map entries => uptoBulkEntries entries + 1
  | .held _ => 1
def uptoBulkAll {H : Type} : List (DataW H) → Nat
  | [] => 0
  | d :: r => uptoBulk d + uptoBulkAll r
def uptoBulkEntries {H : Type} : List (Lit × DataW H) → Nat
  | [] => 0
  | x :: r => uptoBulkEntry x + uptoBulkEntries r
def uptoBulkEntry {H : Type} : Lit × DataW H → Nat
  | (.string bytes, d) => bytes.length + uptoBulk d + 1
  | (_, d) => uptoBulk d + 1
 end
def uptoSmall : (H : Type) → List (DataW H) → Bool := fun _ ds => decide (uptoBulkAll ds ≤ 1048576)
def OpenSpec.upto (s : _root_.Go.ChangeSpec) : _root_.Go.OpenSpec := { _root_.Go.OpenSpec.ofChange s with cond := some uptoSmall }

/-- 'weirboxlaw49.SliceOnce', WHERE WHAT IT READS IS OF BULK AT MOST 1048576: true; the input reads as it did. -/
def sliceOnceUptoRow : OpenClaim := { program := "ytagpigbfbhdoiaa", sum := "1855ee4b5428a4662e792e136af69bc7aa31ae78545cde1466557b907f1de1c9", func := "weirbox/weirboxlaw49.SliceOnce", spec := "sliceOnce", unfollowed := true, recurses := true, apart := false, narrowed := true }
def SliceOnceUptoSaid : Prop := sliceOnceUptoRow.holds Try.pinned (OpenSpec.upto sliceOnceSpec)

/-- 'weirboxlaw08.CoverLooks', WHERE WHAT IT READS IS OF BULK AT MOST 1048576: true; the input reads as it did. -/
def coverLooksUptoRow : OpenClaim := { program := "ytagpigbfbhdoiaa", sum := "1855ee4b5428a4662e792e136af69bc7aa31ae78545cde1466557b907f1de1c9", func := "weirbox/weirboxlaw08.CoverLooks", spec := "coverLooks", unfollowed := true, recurses := true, apart := false, narrowed := true }
def CoverLooksUptoSaid : Prop := coverLooksUptoRow.holds Try.pinned (OpenSpec.upto coverLooksSpec)

/-- 'weirboxlaw08.CoverEnough', WHERE WHAT IT READS IS OF BULK AT MOST 1048576: true; the input reads as it did. -/
def coverEnoughUptoRow : OpenClaim := { program := "ytagpigbfbhdoiaa", sum := "1855ee4b5428a4662e792e136af69bc7aa31ae78545cde1466557b907f1de1c9", func := "weirbox/weirboxlaw08.CoverEnough", spec := "coverEnough", unfollowed := true, recurses := true, apart := false, narrowed := true }
def CoverEnoughUptoSaid : Prop := coverEnoughUptoRow.holds Try.pinned (OpenSpec.upto coverEnoughSpec)

/-- 'weirboxlaw49.SliceTells', WHERE WHAT IT READS IS OF BULK AT MOST 1048576: true; the input reads as it did. -/
def sliceTellsUptoRow : OpenClaim := { program := "ytagpigbfbhdoiaa", sum := "1855ee4b5428a4662e792e136af69bc7aa31ae78545cde1466557b907f1de1c9", func := "weirbox/weirboxlaw49.SliceTells", spec := "sliceTells", unfollowed := true, recurses := true, apart := false, narrowed := true }
def SliceTellsUptoSaid : Prop := sliceTellsUptoRow.holds Try.pinned (OpenSpec.upto sliceTellsSpec)

/-- 'weirboxlaw49.SliceMore', WHERE WHAT IT READS IS OF BULK AT MOST 1048576: true; the input reads as it did. -/
def sliceMoreUptoRow : OpenClaim := { program := "ytagpigbfbhdoiaa", sum := "1855ee4b5428a4662e792e136af69bc7aa31ae78545cde1466557b907f1de1c9", func := "weirbox/weirboxlaw49.SliceMore", spec := "sliceMore", unfollowed := true, recurses := true, apart := false, narrowed := true }
def SliceMoreUptoSaid : Prop := sliceMoreUptoRow.holds Try.pinned (OpenSpec.upto sliceMoreSpec)

/-- 'weirboxlaw08.CoverMeets', WHERE WHAT IT READS IS OF BULK AT MOST 1048576: true; the input reads as it did. -/
def coverMeetsUptoRow : OpenClaim := { program := "ytagpigbfbhdoiaa", sum := "1855ee4b5428a4662e792e136af69bc7aa31ae78545cde1466557b907f1de1c9", func := "weirbox/weirboxlaw08.CoverMeets", spec := "coverMeets", unfollowed := true, recurses := true, apart := false, narrowed := true }
def CoverMeetsUptoSaid : Prop := coverMeetsUptoRow.holds Try.pinned (OpenSpec.upto coverMeetsSpec)

/-- 'weirboxlaw08.CoverTells', WHERE WHAT IT READS IS OF BULK AT MOST 1048576: true; the input reads as it did. -/
def coverTellsUptoRow : OpenClaim := { program := "ytagpigbfbhdoiaa", sum := "1855ee4b5428a4662e792e136af69bc7aa31ae78545cde1466557b907f1de1c9", func := "weirbox/weirboxlaw08.CoverTells", spec := "coverTells", unfollowed := true, recurses := true, apart := false, narrowed := true }
def CoverTellsUptoSaid : Prop := coverTellsUptoRow.holds Try.pinned (OpenSpec.upto coverTellsSpec)

/-- 'weirboxlaw24.GroupDoes', WHERE WHAT IT READS IS OF BULK AT MOST 1048576: true; the input reads as it did. -/
def groupDoesUptoRow : OpenClaim := { program := "ytagpigbfbhdoiaa", sum := "1855ee4b5428a4662e792e136af69bc7aa31ae78545cde1466557b907f1de1c9", func := "weirbox/weirboxlaw24.GroupDoes", spec := "groupDoes", unfollowed := true, recurses := true, apart := false, narrowed := true }
def GroupDoesUptoSaid : Prop := groupDoesUptoRow.holds Try.pinned (OpenSpec.upto groupDoesSpec)

/-- 'weirboxlaw24.GroupStays', WHERE WHAT IT READS IS OF BULK AT MOST 1048576: true; the input reads as it did. -/
def groupStaysUptoRow : OpenClaim := { program := "ytagpigbfbhdoiaa", sum := "1855ee4b5428a4662e792e136af69bc7aa31ae78545cde1466557b907f1de1c9", func := "weirbox/weirboxlaw24.GroupStays", spec := "groupStays", unfollowed := true, recurses := true, apart := false, narrowed := true }
def GroupStaysUptoSaid : Prop := groupStaysUptoRow.holds Try.pinned (OpenSpec.upto groupStaysSpec)

/-- 'weirboxlaw24.GroupEnds', WHERE WHAT IT READS IS OF BULK AT MOST 1048576: true; the input reads as it did. -/
def groupEndsUptoRow : OpenClaim := { program := "ytagpigbfbhdoiaa", sum := "1855ee4b5428a4662e792e136af69bc7aa31ae78545cde1466557b907f1de1c9", func := "weirbox/weirboxlaw24.GroupEnds", spec := "groupEnds", unfollowed := true, recurses := true, apart := false, narrowed := true }
def GroupEndsUptoSaid : Prop := groupEndsUptoRow.holds Try.pinned (OpenSpec.upto groupEndsSpec)

/-- 'weirboxlaw24.GroupGone', WHERE WHAT IT READS IS OF BULK AT MOST 1048576: true; the input reads as it did. -/
def groupGoneUptoRow : OpenClaim := { program := "ytagpigbfbhdoiaa", sum := "1855ee4b5428a4662e792e136af69bc7aa31ae78545cde1466557b907f1de1c9", func := "weirbox/weirboxlaw24.GroupGone", spec := "groupGone", unfollowed := true, recurses := true, apart := false, narrowed := true }
def GroupGoneUptoSaid : Prop := groupGoneUptoRow.holds Try.pinned (OpenSpec.upto groupGoneSpec)

/-- 'weirboxlaw24.GroupTells', WHERE WHAT IT READS IS OF BULK AT MOST 1048576: true; the input reads as it did. -/
def groupTellsUptoRow : OpenClaim := { program := "ytagpigbfbhdoiaa", sum := "1855ee4b5428a4662e792e136af69bc7aa31ae78545cde1466557b907f1de1c9", func := "weirbox/weirboxlaw24.GroupTells", spec := "groupTells", unfollowed := true, recurses := true, apart := false, narrowed := true }
def GroupTellsUptoSaid : Prop := groupTellsUptoRow.holds Try.pinned (OpenSpec.upto groupTellsSpec)

end Rows
end Go.Proofs.Ytagpigbfbhdoiaa
