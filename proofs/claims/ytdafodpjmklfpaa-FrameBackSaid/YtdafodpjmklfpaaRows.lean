/-
  No cell of these rows narrows 'for every input' (looked for: loops, veiled, ifaces, maps, wideKeys, modest, calm, conditions, laid).
  DERIVED. THE GIVEN ROWS OF THIS SEAT. 12 by the template 'for every input the law returns true; each argument reads behind the call as it read before'; 0 by the template 'total and deterministic' (their statements: YtdafodpjmklfpaaTotals.lean).
  GIVEN WITH THE SEED: the statements are not yours to turn. If you find one false, say at which input.
  Laid BY PROGRAM, IN A SANDBOX (cutbox-rows.mjs): the forced cells as the released guide's own fill.sh prints them over the translation f60105b317aa7ed9… (all of the seat's roots in one cut). By AI agents, Wed Nov 11 2026. No macro, syntax, notation, axiom, sorry.
-/
import Derived.Test.YtdafodpjmklfpaaChecked
import GoSem.Claim
import GoSem.ClaimJoined
import GoSem.ClaimMapViews
import Derived.JoinedTies
import Derived.KernelRfl
namespace Go.Proofs.Ytdafodpjmklfpaa
/- THE CELL 'sum', in the pinned program and in every row, IS THE sha256 OF THE DUMP (.gsa) THAT YtdafodpjmklfpaaProg.lean LOADS. Nothing in Lean hashes anything: it is a label: what it is worth is what the hold of that sum in a sandbox is worth. -/
noncomputable def Try.pinned : Pinned := { name := "ytdafodpjmklfpaa", sum := "f60105b317aa7ed9b6ef6fd83d54545dd4b3fcb404cc1dc9eb73b1cd7fad2f73", checked := Try.checked }
namespace Rows
def none {H : Type} : Left H := { results := [], args := [] }

/-- 'weirboxlaw02.WideOne': WHATEVER THE INPUT: true; the input reads as it did. -/
def wideOneSpec : ChangeSpec := { name := "wideOne", fn := fun _ => fun
  | [d1, d2] => { results := [.lit (.bool true)], args := [d1, d2] }
  | _ => none }
def wideOneRow : OpenClaim := { program := "ytdafodpjmklfpaa", sum := "f60105b317aa7ed9b6ef6fd83d54545dd4b3fcb404cc1dc9eb73b1cd7fad2f73", func := "weirbox/weirboxlaw02.WideOne", spec := "wideOne", apart := false }
def WideOneSaid : Prop := wideOneRow.holds Try.pinned (OpenSpec.ofChange wideOneSpec)

/-- ITS FALSE NEIGHBOUR: 'it returns false'. Refute it at one input. -/
def wideOneWrong : ChangeSpec := { name := "wideOne", fn := fun _ => fun
  | [d1, d2] => { results := [.lit (.bool false)], args := [d1, d2] }
  | _ => none }
def WideOneWrongFalsely : Prop := wideOneRow.holds Try.pinned (OpenSpec.ofChange wideOneWrong)

/-- 'weirboxlaw02.WideBits': WHATEVER THE INPUT: true; the input reads as it did. -/
def wideBitsSpec : ChangeSpec := { name := "wideBits", fn := fun _ => fun
  | [d1, d2] => { results := [.lit (.bool true)], args := [d1, d2] }
  | _ => none }
def wideBitsRow : OpenClaim := { program := "ytdafodpjmklfpaa", sum := "f60105b317aa7ed9b6ef6fd83d54545dd4b3fcb404cc1dc9eb73b1cd7fad2f73", func := "weirbox/weirboxlaw02.WideBits", spec := "wideBits", apart := false }
def WideBitsSaid : Prop := wideBitsRow.holds Try.pinned (OpenSpec.ofChange wideBitsSpec)

/-- ITS FALSE NEIGHBOUR: 'it returns false'. Refute it at one input. -/
def wideBitsWrong : ChangeSpec := { name := "wideBits", fn := fun _ => fun
  | [d1, d2] => { results := [.lit (.bool false)], args := [d1, d2] }
  | _ => none }
def WideBitsWrongFalsely : Prop := wideBitsRow.holds Try.pinned (OpenSpec.ofChange wideBitsWrong)

/-- 'weirboxlaw02.WideCounts': WHATEVER THE INPUT: true; the input reads as it did. -/
def wideCountsSpec : ChangeSpec := { name := "wideCounts", fn := fun _ => fun
  | [d1, d2] => { results := [.lit (.bool true)], args := [d1, d2] }
  | _ => none }
def wideCountsRow : OpenClaim := { program := "ytdafodpjmklfpaa", sum := "f60105b317aa7ed9b6ef6fd83d54545dd4b3fcb404cc1dc9eb73b1cd7fad2f73", func := "weirbox/weirboxlaw02.WideCounts", spec := "wideCounts", apart := false }
def WideCountsSaid : Prop := wideCountsRow.holds Try.pinned (OpenSpec.ofChange wideCountsSpec)

/-- ITS FALSE NEIGHBOUR: 'it returns false'. Refute it at one input. -/
def wideCountsWrong : ChangeSpec := { name := "wideCounts", fn := fun _ => fun
  | [d1, d2] => { results := [.lit (.bool false)], args := [d1, d2] }
  | _ => none }
def WideCountsWrongFalsely : Prop := wideCountsRow.holds Try.pinned (OpenSpec.ofChange wideCountsWrong)

/-- 'weirboxlaw19.FaultReplies': WHATEVER THE INPUT: true; the input reads as it did. -/
def faultRepliesSpec : ChangeSpec := { name := "faultReplies", fn := fun _ => fun
  | [d1, d2] => { results := [.lit (.bool true)], args := [d1, d2] }
  | _ => none }
def faultRepliesRow : OpenClaim := { program := "ytdafodpjmklfpaa", sum := "f60105b317aa7ed9b6ef6fd83d54545dd4b3fcb404cc1dc9eb73b1cd7fad2f73", func := "weirbox/weirboxlaw19.FaultReplies", spec := "faultReplies", apart := false }
def FaultRepliesSaid : Prop := faultRepliesRow.holds Try.pinned (OpenSpec.ofChange faultRepliesSpec)

/-- ITS FALSE NEIGHBOUR: 'it returns false'. Refute it at one input. -/
def faultRepliesWrong : ChangeSpec := { name := "faultReplies", fn := fun _ => fun
  | [d1, d2] => { results := [.lit (.bool false)], args := [d1, d2] }
  | _ => none }
def FaultRepliesWrongFalsely : Prop := faultRepliesRow.holds Try.pinned (OpenSpec.ofChange faultRepliesWrong)

/-- 'weirboxlaw19.FaultParses': WHATEVER THE INPUT: true; the input reads as it did. -/
def faultParsesSpec : ChangeSpec := { name := "faultParses", fn := fun _ => fun
  | [d] => { results := [.lit (.bool true)], args := [d] }
  | _ => none }
def faultParsesRow : OpenClaim := { program := "ytdafodpjmklfpaa", sum := "f60105b317aa7ed9b6ef6fd83d54545dd4b3fcb404cc1dc9eb73b1cd7fad2f73", func := "weirbox/weirboxlaw19.FaultParses", spec := "faultParses", apart := false }
def FaultParsesSaid : Prop := faultParsesRow.holds Try.pinned (OpenSpec.ofChange faultParsesSpec)

/-- ITS FALSE NEIGHBOUR: 'it returns false'. Refute it at one input. -/
def faultParsesWrong : ChangeSpec := { name := "faultParses", fn := fun _ => fun
  | [d] => { results := [.lit (.bool false)], args := [d] }
  | _ => none }
def FaultParsesWrongFalsely : Prop := faultParsesRow.holds Try.pinned (OpenSpec.ofChange faultParsesWrong)

/-- 'weirboxlaw02.WideBack': WHATEVER THE INPUT: true; the input reads as it did. -/
def wideBackSpec : ChangeSpec := { name := "wideBack", fn := fun _ => fun
  | [d1, d2] => { results := [.lit (.bool true)], args := [d1, d2] }
  | _ => none }
def wideBackRow : OpenClaim := { program := "ytdafodpjmklfpaa", sum := "f60105b317aa7ed9b6ef6fd83d54545dd4b3fcb404cc1dc9eb73b1cd7fad2f73", func := "weirbox/weirboxlaw02.WideBack", spec := "wideBack", apart := false }
def WideBackSaid : Prop := wideBackRow.holds Try.pinned (OpenSpec.ofChange wideBackSpec)

/-- ITS FALSE NEIGHBOUR: 'it returns false'. Refute it at one input. -/
def wideBackWrong : ChangeSpec := { name := "wideBack", fn := fun _ => fun
  | [d1, d2] => { results := [.lit (.bool false)], args := [d1, d2] }
  | _ => none }
def WideBackWrongFalsely : Prop := wideBackRow.holds Try.pinned (OpenSpec.ofChange wideBackWrong)

/-- 'weirboxlaw02.WidePuts': WHATEVER THE INPUT: true; the input reads as it did. -/
def widePutsSpec : ChangeSpec := { name := "widePuts", fn := fun _ => fun
  | [d1, d2, d3] => { results := [.lit (.bool true)], args := [d1, d2, d3] }
  | _ => none }
def widePutsRow : OpenClaim := { program := "ytdafodpjmklfpaa", sum := "f60105b317aa7ed9b6ef6fd83d54545dd4b3fcb404cc1dc9eb73b1cd7fad2f73", func := "weirbox/weirboxlaw02.WidePuts", spec := "widePuts", apart := false }
def WidePutsSaid : Prop := widePutsRow.holds Try.pinned (OpenSpec.ofChange widePutsSpec)

/-- ITS FALSE NEIGHBOUR: 'it returns false'. Refute it at one input. -/
def widePutsWrong : ChangeSpec := { name := "widePuts", fn := fun _ => fun
  | [d1, d2, d3] => { results := [.lit (.bool false)], args := [d1, d2, d3] }
  | _ => none }
def WidePutsWrongFalsely : Prop := widePutsRow.holds Try.pinned (OpenSpec.ofChange widePutsWrong)

/-- 'weirboxlaw16.FrameHeads': WHATEVER THE INPUT: true; the input reads as it did. -/
def frameHeadsSpec : ChangeSpec := { name := "frameHeads", fn := fun _ => fun
  | [d1, d2, d3] => { results := [.lit (.bool true)], args := [d1, d2, d3] }
  | _ => none }
def frameHeadsRow : OpenClaim := { program := "ytdafodpjmklfpaa", sum := "f60105b317aa7ed9b6ef6fd83d54545dd4b3fcb404cc1dc9eb73b1cd7fad2f73", func := "weirbox/weirboxlaw16.FrameHeads", spec := "frameHeads", unfollowed := true, recurses := true, apart := false }
def FrameHeadsSaid : Prop := frameHeadsRow.holds Try.pinned (OpenSpec.ofChange frameHeadsSpec)

/-- ITS FALSE NEIGHBOUR: 'it returns false'. Refute it at one input. -/
def frameHeadsWrong : ChangeSpec := { name := "frameHeads", fn := fun _ => fun
  | [d1, d2, d3] => { results := [.lit (.bool false)], args := [d1, d2, d3] }
  | _ => none }
def FrameHeadsWrongFalsely : Prop := frameHeadsRow.holds Try.pinned (OpenSpec.ofChange frameHeadsWrong)

/-- 'weirboxlaw16.FrameSplits': WHATEVER THE INPUT: true; the input reads as it did. -/
def frameSplitsSpec : ChangeSpec := { name := "frameSplits", fn := fun _ => fun
  | [d1, d2] => { results := [.lit (.bool true)], args := [d1, d2] }
  | _ => none }
def frameSplitsRow : OpenClaim := { program := "ytdafodpjmklfpaa", sum := "f60105b317aa7ed9b6ef6fd83d54545dd4b3fcb404cc1dc9eb73b1cd7fad2f73", func := "weirbox/weirboxlaw16.FrameSplits", spec := "frameSplits", unfollowed := true, recurses := true, apart := false }
def FrameSplitsSaid : Prop := frameSplitsRow.holds Try.pinned (OpenSpec.ofChange frameSplitsSpec)

/-- ITS FALSE NEIGHBOUR: 'it returns false'. Refute it at one input. -/
def frameSplitsWrong : ChangeSpec := { name := "frameSplits", fn := fun _ => fun
  | [d1, d2] => { results := [.lit (.bool false)], args := [d1, d2] }
  | _ => none }
def FrameSplitsWrongFalsely : Prop := frameSplitsRow.holds Try.pinned (OpenSpec.ofChange frameSplitsWrong)

/-- 'weirboxlaw19.FaultBack': WHATEVER THE INPUT: true; the input reads as it did. -/
def faultBackSpec : ChangeSpec := { name := "faultBack", fn := fun _ => fun
  | [d1, d2, d3] => { results := [.lit (.bool true)], args := [d1, d2, d3] }
  | _ => none }
def faultBackRow : OpenClaim := { program := "ytdafodpjmklfpaa", sum := "f60105b317aa7ed9b6ef6fd83d54545dd4b3fcb404cc1dc9eb73b1cd7fad2f73", func := "weirbox/weirboxlaw19.FaultBack", spec := "faultBack", unfollowed := true, recurses := true, apart := false }
def FaultBackSaid : Prop := faultBackRow.holds Try.pinned (OpenSpec.ofChange faultBackSpec)

/-- ITS FALSE NEIGHBOUR: 'it returns false'. Refute it at one input. -/
def faultBackWrong : ChangeSpec := { name := "faultBack", fn := fun _ => fun
  | [d1, d2, d3] => { results := [.lit (.bool false)], args := [d1, d2, d3] }
  | _ => none }
def FaultBackWrongFalsely : Prop := faultBackRow.holds Try.pinned (OpenSpec.ofChange faultBackWrong)

/-- 'weirboxlaw16.FrameAll': WHATEVER THE INPUT: true; the input reads as it did. -/
def frameAllSpec : ChangeSpec := { name := "frameAll", fn := fun _ => fun
  | [d] => { results := [.lit (.bool true)], args := [d] }
  | _ => none }
def frameAllRow : OpenClaim := { program := "ytdafodpjmklfpaa", sum := "f60105b317aa7ed9b6ef6fd83d54545dd4b3fcb404cc1dc9eb73b1cd7fad2f73", func := "weirbox/weirboxlaw16.FrameAll", spec := "frameAll", inPlace := ["internal/bytealg.MakeNoZero"], unfollowed := true, recurses := true, apart := false }
def FrameAllSaid : Prop := frameAllRow.holds Try.pinned (OpenSpec.ofChange frameAllSpec)

/-- ITS FALSE NEIGHBOUR: 'it returns false'. Refute it at one input. -/
def frameAllWrong : ChangeSpec := { name := "frameAll", fn := fun _ => fun
  | [d] => { results := [.lit (.bool false)], args := [d] }
  | _ => none }
def FrameAllWrongFalsely : Prop := frameAllRow.holds Try.pinned (OpenSpec.ofChange frameAllWrong)

/-- 'weirboxlaw16.FrameBack': WHATEVER THE INPUT: true; the input reads as it did. -/
def frameBackSpec : ChangeSpec := { name := "frameBack", fn := fun _ => fun
  | [d1, d2, d3, d4] => { results := [.lit (.bool true)], args := [d1, d2, d3, d4] }
  | _ => none }
def frameBackRow : OpenClaim := { program := "ytdafodpjmklfpaa", sum := "f60105b317aa7ed9b6ef6fd83d54545dd4b3fcb404cc1dc9eb73b1cd7fad2f73", func := "weirbox/weirboxlaw16.FrameBack", spec := "frameBack", inPlace := ["internal/bytealg.MakeNoZero"], unfollowed := true, recurses := true, apart := false }
def FrameBackSaid : Prop := frameBackRow.holds Try.pinned (OpenSpec.ofChange frameBackSpec)

/-- ITS FALSE NEIGHBOUR: 'it returns false'. Refute it at one input. -/
def frameBackWrong : ChangeSpec := { name := "frameBack", fn := fun _ => fun
  | [d1, d2, d3, d4] => { results := [.lit (.bool false)], args := [d1, d2, d3, d4] }
  | _ => none }
def FrameBackWrongFalsely : Prop := frameBackRow.holds Try.pinned (OpenSpec.ofChange frameBackWrong)

/- THE SECOND FORM. 'bulk': how many values and letters a reading holds, each counted each time it is reached (what is shared counts as often as it is met; a slice's spare places count too). A statement '..UptoSaid' is the law's where the arguments, and the package variables that the reading takes, are together of bulk at most 1048576: NARROWER than '..Said'. Prove '..Said' where nothing that the law and all that it calls make is longer than what came in: it says more and counts as full. Else prove '..UptoSaid'. A law counts once. -/
mutual
def uptoBulk {H : Type} : DataW H → Nat
  | .lit (.string bytes) => bytes.length + 1
  | .lit _ => 1
  | .nil => 1
  | .ptr d => uptoBulk d + 1
  | .slice elems spare => uptoBulkAll elems + uptoBulkAll spare + 1
  | .agg parts => uptoBulkAll parts + 1
  | .iface _ d => uptoBulk d + 1
  | .map entries => uptoBulkEntries entries + 1
  | .held _ => 1
def uptoBulkAll {H : Type} : List (DataW H) → Nat
  | [] => 0
  | d :: r => uptoBulk d + uptoBulkAll r
def uptoBulkEntries {H : Type} : List (Lit × DataW H) → Nat
  | [] => 0
  | x :: r => uptoBulkEntry x + uptoBulkEntries r
def uptoBulkEntry {H : Type} : Lit × DataW H → Nat
  | (.string bytes, d) => bytes.length + uptoBulk d + 1
  | (_, d) => uptoBulk d + 1
 end
def uptoSmall : (H : Type) → List (DataW H) → Bool := fun _ ds => decide (uptoBulkAll ds ≤ 1048576)
def OpenSpec.upto (s : _root_.Go.ChangeSpec) : _root_.Go.OpenSpec := { _root_.Go.OpenSpec.ofChange s with cond := some uptoSmall }

/-- 'weirboxlaw02.WideOne', WHERE WHAT IT READS IS OF BULK AT MOST 1048576: true; the input reads as it did. -/
def wideOneUptoRow : OpenClaim := { program := "ytdafodpjmklfpaa", sum := "f60105b317aa7ed9b6ef6fd83d54545dd4b3fcb404cc1dc9eb73b1cd7fad2f73", func := "weirbox/weirboxlaw02.WideOne", spec := "wideOne", apart := false, narrowed := true }
def WideOneUptoSaid : Prop := wideOneUptoRow.holds Try.pinned (OpenSpec.upto wideOneSpec)

/-- 'weirboxlaw02.WideBits', WHERE WHAT IT READS IS OF BULK AT MOST 1048576: true; the input reads as it did. -/
def wideBitsUptoRow : OpenClaim := { program := "ytdafodpjmklfpaa", sum := "f60105b317aa7ed9b6ef6fd83d54545dd4b3fcb404cc1dc9eb73b1cd7fad2f73", func := "weirbox/weirboxlaw02.WideBits", spec := "wideBits", apart := false, narrowed := true }
def WideBitsUptoSaid : Prop := wideBitsUptoRow.holds Try.pinned (OpenSpec.upto wideBitsSpec)

/-- 'weirboxlaw02.WideCounts', WHERE WHAT IT READS IS OF BULK AT MOST 1048576: true; the input reads as it did. -/
def wideCountsUptoRow : OpenClaim := { program := "ytdafodpjmklfpaa", sum := "f60105b317aa7ed9b6ef6fd83d54545dd4b3fcb404cc1dc9eb73b1cd7fad2f73", func := "weirbox/weirboxlaw02.WideCounts", spec := "wideCounts", apart := false, narrowed := true }
def WideCountsUptoSaid : Prop := wideCountsUptoRow.holds Try.pinned (OpenSpec.upto wideCountsSpec)

/-- 'weirboxlaw19.FaultReplies', WHERE WHAT IT READS IS OF BULK AT MOST 1048576: true; the input reads as it did. -/
def faultRepliesUptoRow : OpenClaim := { program := "ytdafodpjmklfpaa", sum := "f60105b317aa7ed9b6ef6fd83d54545dd4b3fcb404cc1dc9eb73b1cd7fad2f73", func := "weirbox/weirboxlaw19.FaultReplies", spec := "faultReplies", apart := false, narrowed := true }
def FaultRepliesUptoSaid : Prop := faultRepliesUptoRow.holds Try.pinned (OpenSpec.upto faultRepliesSpec)

/-- 'weirboxlaw19.FaultParses', WHERE WHAT IT READS IS OF BULK AT MOST 1048576: true; the input reads as it did. -/
def faultParsesUptoRow : OpenClaim := { program := "ytdafodpjmklfpaa", sum := "f60105b317aa7ed9b6ef6fd83d54545dd4b3fcb404cc1dc9eb73b1cd7fad2f73", func := "weirbox/weirboxlaw19.FaultParses", spec := "faultParses", apart := false, narrowed := true }
def FaultParsesUptoSaid : Prop := faultParsesUptoRow.holds Try.pinned (OpenSpec.upto faultParsesSpec)

/-- 'weirboxlaw02.WideBack', WHERE WHAT IT READS IS OF BULK AT MOST 1048576: true; the input reads as it did. -/
def wideBackUptoRow : OpenClaim := { program := "ytdafodpjmklfpaa", sum := "f60105b317aa7ed9b6ef6fd83d54545dd4b3fcb404cc1dc9eb73b1cd7fad2f73", func := "weirbox/weirboxlaw02.WideBack", spec := "wideBack", apart := false, narrowed := true }
def WideBackUptoSaid : Prop := wideBackUptoRow.holds Try.pinned (OpenSpec.upto wideBackSpec)

/-- 'weirboxlaw02.WidePuts', WHERE WHAT IT READS IS OF BULK AT MOST 1048576: true; the input reads as it did. -/
def widePutsUptoRow : OpenClaim := { program := "ytdafodpjmklfpaa", sum := "f60105b317aa7ed9b6ef6fd83d54545dd4b3fcb404cc1dc9eb73b1cd7fad2f73", func := "weirbox/weirboxlaw02.WidePuts", spec := "widePuts", apart := false, narrowed := true }
def WidePutsUptoSaid : Prop := widePutsUptoRow.holds Try.pinned (OpenSpec.upto widePutsSpec)

/-- 'weirboxlaw16.FrameHeads', WHERE WHAT IT READS IS OF BULK AT MOST 1048576: true; the input reads as it did. -/
def frameHeadsUptoRow : OpenClaim := { program := "ytdafodpjmklfpaa", sum := "f60105b317aa7ed9b6ef6fd83d54545dd4b3fcb404cc1dc9eb73b1cd7fad2f73", func := "weirbox/weirboxlaw16.FrameHeads", spec := "frameHeads", unfollowed := true, recurses := true, apart := false, narrowed := true }
def FrameHeadsUptoSaid : Prop := frameHeadsUptoRow.holds Try.pinned (OpenSpec.upto frameHeadsSpec)

/-- 'weirboxlaw16.FrameSplits', WHERE WHAT IT READS IS OF BULK AT MOST 1048576: true; the input reads as it did. -/
def frameSplitsUptoRow : OpenClaim := { program := "ytdafodpjmklfpaa", sum := "f60105b317aa7ed9b6ef6fd83d54545dd4b3fcb404cc1dc9eb73b1cd7fad2f73", func := "weirbox/weirboxlaw16.FrameSplits", spec := "frameSplits", unfollowed := true, recurses := true, apart := false, narrowed := true }
def FrameSplitsUptoSaid : Prop := frameSplitsUptoRow.holds Try.pinned (OpenSpec.upto frameSplitsSpec)

/-- 'weirboxlaw19.FaultBack', WHERE WHAT IT READS IS OF BULK AT MOST 1048576: true; the input reads as it did. -/
def faultBackUptoRow : OpenClaim := { program := "ytdafodpjmklfpaa", sum := "f60105b317aa7ed9b6ef6fd83d54545dd4b3fcb404cc1dc9eb73b1cd7fad2f73", func := "weirbox/weirboxlaw19.FaultBack", spec := "faultBack", unfollowed := true, recurses := true, apart := false, narrowed := true }
def FaultBackUptoSaid : Prop := faultBackUptoRow.holds Try.pinned (OpenSpec.upto faultBackSpec)

/-- 'weirboxlaw16.FrameAll', WHERE WHAT IT READS IS OF BULK AT MOST 1048576: true; the input reads as it did. -/
def frameAllUptoRow : OpenClaim := { program := "ytdafodpjmklfpaa", sum := "f60105b317aa7ed9b6ef6fd83d54545dd4b3fcb404cc1dc9eb73b1cd7fad2f73", func := "weirbox/weirboxlaw16.FrameAll", spec := "frameAll", inPlace := ["internal/bytealg.MakeNoZero"], unfollowed := true, recurses := true, apart := false, narrowed := true }
def FrameAllUptoSaid : Prop := frameAllUptoRow.holds Try.pinned (OpenSpec.upto frameAllSpec)

/-- 'weirboxlaw16.FrameBack', WHERE WHAT IT READS IS OF BULK AT MOST 1048576: true; the input reads as it did. -/
def frameBackUptoRow : OpenClaim := { program := "ytdafodpjmklfpaa", sum := "f60105b317aa7ed9b6ef6fd83d54545dd4b3fcb404cc1dc9eb73b1cd7fad2f73", func := "weirbox/weirboxlaw16.FrameBack", spec := "frameBack", inPlace := ["internal/bytealg.MakeNoZero"], unfollowed := true, recurses := true, apart := false, narrowed := true }
def FrameBackUptoSaid : Prop := frameBackUptoRow.holds Try.pinned (OpenSpec.upto frameBackSpec)

end Rows
end Go.Proofs.Ytdafodpjmklfpaa
