/-
  No cell of these rows narrows 'for every input' (looked for: loops, veiled, ifaces, maps, wideKeys, modest, calm, conditions, laid).
  DERIVED. THE GIVEN ROWS OF THIS SEAT. 11 by the template 'for every input the law returns true; each argument reads behind the call as it read before'; 0 by the template 'total and deterministic' (their statements: YtpiboooclejjcaaTotals.lean).
  GIVEN WITH THE SEED: the statements are not yours to turn. If you find one false, say at which input.
  Laid BY PROGRAM, IN A SANDBOX (cutbox-rows.mjs): the forced cells as the released guide's own fill.sh prints them over the translation 751bfc233220d12f… (all of the seat's roots in one cut). By AI agents, Wed Nov 11 2026. No macro, syntax, notation, axiom, sorry.
-/
import Derived.Test.YtpiboooclejjcaaChecked
import GoSem.Claim
import GoSem.ClaimJoined
import GoSem.ClaimMapViews
import Derived.JoinedTies
import Derived.KernelRfl
namespace Go.Proofs.Ytpiboooclejjcaa
/- THE CELL 'sum', in the pinned program and in every row, IS THE sha256 OF THE DUMP (.gsa) THAT YtpiboooclejjcaaProg.lean LOADS. Nothing in Lean hashes anything: it is a label: what it is worth is what the hold of that sum in a sandbox is worth. -/
noncomputable def Try.pinned : Pinned := { name := "ytpiboooclejjcaa", sum := "751bfc233220d12f30bb15adaf7de1fbd5650a0ec4126b6e83332e67dfcb7cda", checked := Try.checked }
namespace Rows
def none {H : Type} : Left H := { results := [], args := [] }

/-- 'weirboxlaw05.TernTells': WHATEVER THE INPUT: true; the input reads as it did. -/
def ternTellsSpec : ChangeSpec := { name := "ternTells", fn := fun _ => fun
  | [d1, d2, d3, d4, d5] => { results := [.lit (.bool true)], args := [d1, d2, d3, d4, d5] }
  | _ => none }
def ternTellsRow : OpenClaim := { program := "ytpiboooclejjcaa", sum := "751bfc233220d12f30bb15adaf7de1fbd5650a0ec4126b6e83332e67dfcb7cda", func := "weirbox/weirboxlaw05.TernTells", spec := "ternTells", apart := false }
def TernTellsSaid : Prop := ternTellsRow.holds Try.pinned (OpenSpec.ofChange ternTellsSpec)

/-- ITS FALSE NEIGHBOUR: 'it returns false'. Refute it at one input. -/
def ternTellsWrong : ChangeSpec := { name := "ternTells", fn := fun _ => fun
  | [d1, d2, d3, d4, d5] => { results := [.lit (.bool false)], args := [d1, d2, d3, d4, d5] }
  | _ => none }
def TernTellsWrongFalsely : Prop := ternTellsRow.holds Try.pinned (OpenSpec.ofChange ternTellsWrong)

/-- 'weirboxlaw05.TernMeet': WHATEVER THE INPUT: true; the input reads as it did. -/
def ternMeetSpec : ChangeSpec := { name := "ternMeet", fn := fun _ => fun
  | [d1, d2, d3] => { results := [.lit (.bool true)], args := [d1, d2, d3] }
  | _ => none }
def ternMeetRow : OpenClaim := { program := "ytpiboooclejjcaa", sum := "751bfc233220d12f30bb15adaf7de1fbd5650a0ec4126b6e83332e67dfcb7cda", func := "weirbox/weirboxlaw05.TernMeet", spec := "ternMeet", apart := false }
def TernMeetSaid : Prop := ternMeetRow.holds Try.pinned (OpenSpec.ofChange ternMeetSpec)

/-- ITS FALSE NEIGHBOUR: 'it returns false'. Refute it at one input. -/
def ternMeetWrong : ChangeSpec := { name := "ternMeet", fn := fun _ => fun
  | [d1, d2, d3] => { results := [.lit (.bool false)], args := [d1, d2, d3] }
  | _ => none }
def TernMeetWrongFalsely : Prop := ternMeetRow.holds Try.pinned (OpenSpec.ofChange ternMeetWrong)

/-- 'weirboxlaw05.TernWithin': WHATEVER THE INPUT: true; the input reads as it did. -/
def ternWithinSpec : ChangeSpec := { name := "ternWithin", fn := fun _ => fun
  | [d1, d2, d3] => { results := [.lit (.bool true)], args := [d1, d2, d3] }
  | _ => none }
def ternWithinRow : OpenClaim := { program := "ytpiboooclejjcaa", sum := "751bfc233220d12f30bb15adaf7de1fbd5650a0ec4126b6e83332e67dfcb7cda", func := "weirbox/weirboxlaw05.TernWithin", spec := "ternWithin", apart := false }
def TernWithinSaid : Prop := ternWithinRow.holds Try.pinned (OpenSpec.ofChange ternWithinSpec)

/-- ITS FALSE NEIGHBOUR: 'it returns false'. Refute it at one input. -/
def ternWithinWrong : ChangeSpec := { name := "ternWithin", fn := fun _ => fun
  | [d1, d2, d3] => { results := [.lit (.bool false)], args := [d1, d2, d3] }
  | _ => none }
def TernWithinWrongFalsely : Prop := ternWithinRow.holds Try.pinned (OpenSpec.ofChange ternWithinWrong)

/-- 'weirboxlaw05.TernFix': WHATEVER THE INPUT: true; the input reads as it did. -/
def ternFixSpec : ChangeSpec := { name := "ternFix", fn := fun _ => fun
  | [d1, d2, d3] => { results := [.lit (.bool true)], args := [d1, d2, d3] }
  | _ => none }
def ternFixRow : OpenClaim := { program := "ytpiboooclejjcaa", sum := "751bfc233220d12f30bb15adaf7de1fbd5650a0ec4126b6e83332e67dfcb7cda", func := "weirbox/weirboxlaw05.TernFix", spec := "ternFix", apart := false }
def TernFixSaid : Prop := ternFixRow.holds Try.pinned (OpenSpec.ofChange ternFixSpec)

/-- ITS FALSE NEIGHBOUR: 'it returns false'. Refute it at one input. -/
def ternFixWrong : ChangeSpec := { name := "ternFix", fn := fun _ => fun
  | [d1, d2, d3] => { results := [.lit (.bool false)], args := [d1, d2, d3] }
  | _ => none }
def TernFixWrongFalsely : Prop := ternFixRow.holds Try.pinned (OpenSpec.ofChange ternFixWrong)

/-- 'weirboxlaw06.CubeTells': WHATEVER THE INPUT: true; the input reads as it did. -/
def cubeTellsSpec : ChangeSpec := { name := "cubeTells", fn := fun _ => fun
  | [d1, d2, d3] => { results := [.lit (.bool true)], args := [d1, d2, d3] }
  | _ => none }
def cubeTellsRow : OpenClaim := { program := "ytpiboooclejjcaa", sum := "751bfc233220d12f30bb15adaf7de1fbd5650a0ec4126b6e83332e67dfcb7cda", func := "weirbox/weirboxlaw06.CubeTells", spec := "cubeTells", unfollowed := true, recurses := true, apart := false }
def CubeTellsSaid : Prop := cubeTellsRow.holds Try.pinned (OpenSpec.ofChange cubeTellsSpec)

/-- ITS FALSE NEIGHBOUR: 'it returns false'. Refute it at one input. -/
def cubeTellsWrong : ChangeSpec := { name := "cubeTells", fn := fun _ => fun
  | [d1, d2, d3] => { results := [.lit (.bool false)], args := [d1, d2, d3] }
  | _ => none }
def CubeTellsWrongFalsely : Prop := cubeTellsRow.holds Try.pinned (OpenSpec.ofChange cubeTellsWrong)

/-- 'weirboxlaw06.CubeMeet': WHATEVER THE INPUT: true; the input reads as it did. -/
def cubeMeetSpec : ChangeSpec := { name := "cubeMeet", fn := fun _ => fun
  | [d1, d2, d3] => { results := [.lit (.bool true)], args := [d1, d2, d3] }
  | _ => none }
def cubeMeetRow : OpenClaim := { program := "ytpiboooclejjcaa", sum := "751bfc233220d12f30bb15adaf7de1fbd5650a0ec4126b6e83332e67dfcb7cda", func := "weirbox/weirboxlaw06.CubeMeet", spec := "cubeMeet", unfollowed := true, recurses := true, apart := false }
def CubeMeetSaid : Prop := cubeMeetRow.holds Try.pinned (OpenSpec.ofChange cubeMeetSpec)

/-- ITS FALSE NEIGHBOUR: 'it returns false'. Refute it at one input. -/
def cubeMeetWrong : ChangeSpec := { name := "cubeMeet", fn := fun _ => fun
  | [d1, d2, d3] => { results := [.lit (.bool false)], args := [d1, d2, d3] }
  | _ => none }
def CubeMeetWrongFalsely : Prop := cubeMeetRow.holds Try.pinned (OpenSpec.ofChange cubeMeetWrong)

/-- 'weirboxlaw06.CubePick': WHATEVER THE INPUT: true; the input reads as it did. -/
def cubePickSpec : ChangeSpec := { name := "cubePick", fn := fun _ => fun
  | [d1, d2, d3] => { results := [.lit (.bool true)], args := [d1, d2, d3] }
  | _ => none }
def cubePickRow : OpenClaim := { program := "ytpiboooclejjcaa", sum := "751bfc233220d12f30bb15adaf7de1fbd5650a0ec4126b6e83332e67dfcb7cda", func := "weirbox/weirboxlaw06.CubePick", spec := "cubePick", unfollowed := true, recurses := true, apart := false }
def CubePickSaid : Prop := cubePickRow.holds Try.pinned (OpenSpec.ofChange cubePickSpec)

/-- ITS FALSE NEIGHBOUR: 'it returns false'. Refute it at one input. -/
def cubePickWrong : ChangeSpec := { name := "cubePick", fn := fun _ => fun
  | [d1, d2, d3] => { results := [.lit (.bool false)], args := [d1, d2, d3] }
  | _ => none }
def CubePickWrongFalsely : Prop := cubePickRow.holds Try.pinned (OpenSpec.ofChange cubePickWrong)

/-- 'weirboxlaw06.CubeWithin': WHATEVER THE INPUT: true; the input reads as it did. -/
def cubeWithinSpec : ChangeSpec := { name := "cubeWithin", fn := fun _ => fun
  | [d1, d2, d3] => { results := [.lit (.bool true)], args := [d1, d2, d3] }
  | _ => none }
def cubeWithinRow : OpenClaim := { program := "ytpiboooclejjcaa", sum := "751bfc233220d12f30bb15adaf7de1fbd5650a0ec4126b6e83332e67dfcb7cda", func := "weirbox/weirboxlaw06.CubeWithin", spec := "cubeWithin", unfollowed := true, recurses := true, apart := false }
def CubeWithinSaid : Prop := cubeWithinRow.holds Try.pinned (OpenSpec.ofChange cubeWithinSpec)

/-- ITS FALSE NEIGHBOUR: 'it returns false'. Refute it at one input. -/
def cubeWithinWrong : ChangeSpec := { name := "cubeWithin", fn := fun _ => fun
  | [d1, d2, d3] => { results := [.lit (.bool false)], args := [d1, d2, d3] }
  | _ => none }
def CubeWithinWrongFalsely : Prop := cubeWithinRow.holds Try.pinned (OpenSpec.ofChange cubeWithinWrong)

/-- 'weirboxlaw07.CarveApart': WHATEVER THE INPUT: true; the input reads as it did. -/
def carveApartSpec : ChangeSpec := { name := "carveApart", fn := fun _ => fun
  | [d1, d2, d3] => { results := [.lit (.bool true)], args := [d1, d2, d3] }
  | _ => none }
def carveApartRow : OpenClaim := { program := "ytpiboooclejjcaa", sum := "751bfc233220d12f30bb15adaf7de1fbd5650a0ec4126b6e83332e67dfcb7cda", func := "weirbox/weirboxlaw07.CarveApart", spec := "carveApart", unfollowed := true, recurses := true, apart := false }
def CarveApartSaid : Prop := carveApartRow.holds Try.pinned (OpenSpec.ofChange carveApartSpec)

/-- ITS FALSE NEIGHBOUR: 'it returns false'. Refute it at one input. -/
def carveApartWrong : ChangeSpec := { name := "carveApart", fn := fun _ => fun
  | [d1, d2, d3] => { results := [.lit (.bool false)], args := [d1, d2, d3] }
  | _ => none }
def CarveApartWrongFalsely : Prop := carveApartRow.holds Try.pinned (OpenSpec.ofChange carveApartWrong)

/-- 'weirboxlaw07.CarveTells': WHATEVER THE INPUT: true; the input reads as it did. -/
def carveTellsSpec : ChangeSpec := { name := "carveTells", fn := fun _ => fun
  | [d1, d2] => { results := [.lit (.bool true)], args := [d1, d2] }
  | _ => none }
def carveTellsRow : OpenClaim := { program := "ytpiboooclejjcaa", sum := "751bfc233220d12f30bb15adaf7de1fbd5650a0ec4126b6e83332e67dfcb7cda", func := "weirbox/weirboxlaw07.CarveTells", spec := "carveTells", unfollowed := true, recurses := true, apart := false }
def CarveTellsSaid : Prop := carveTellsRow.holds Try.pinned (OpenSpec.ofChange carveTellsSpec)

/-- ITS FALSE NEIGHBOUR: 'it returns false'. Refute it at one input. -/
def carveTellsWrong : ChangeSpec := { name := "carveTells", fn := fun _ => fun
  | [d1, d2] => { results := [.lit (.bool false)], args := [d1, d2] }
  | _ => none }
def CarveTellsWrongFalsely : Prop := carveTellsRow.holds Try.pinned (OpenSpec.ofChange carveTellsWrong)

/-- 'weirboxlaw07.CarveStops': WHATEVER THE INPUT: true; the input reads as it did. -/
def carveStopsSpec : ChangeSpec := { name := "carveStops", fn := fun _ => fun
  | [d1, d2, d3] => { results := [.lit (.bool true)], args := [d1, d2, d3] }
  | _ => none }
def carveStopsRow : OpenClaim := { program := "ytpiboooclejjcaa", sum := "751bfc233220d12f30bb15adaf7de1fbd5650a0ec4126b6e83332e67dfcb7cda", func := "weirbox/weirboxlaw07.CarveStops", spec := "carveStops", unfollowed := true, recurses := true, apart := false }
def CarveStopsSaid : Prop := carveStopsRow.holds Try.pinned (OpenSpec.ofChange carveStopsSpec)

/-- ITS FALSE NEIGHBOUR: 'it returns false'. Refute it at one input. -/
def carveStopsWrong : ChangeSpec := { name := "carveStops", fn := fun _ => fun
  | [d1, d2, d3] => { results := [.lit (.bool false)], args := [d1, d2, d3] }
  | _ => none }
def CarveStopsWrongFalsely : Prop := carveStopsRow.holds Try.pinned (OpenSpec.ofChange carveStopsWrong)

/- THE SECOND FORM. 'bulk': how many values and letters a reading holds, each counted each time it is reached (what is shared counts as often as it is met; a slice's spare places count too). A statement '..UptoSaid' is the law's where the arguments, and the package variables that the reading takes, are together of bulk at most 1048576: NARROWER than '..Said'. Prove '..Said' where nothing that the law and all that it calls make is longer than what came in: it says more and counts as full. Else prove '..UptoSaid'. A law counts once. -/
mutual
def uptoBulk {H : Type} : DataW H → Nat
  | .lit (.string bytes) => bytes.length + 1
  | .lit _ => 1
  | .nil => 1
  | .ptr d => uptoBulk d + 1
  | .slice elems spare => uptoBulkAll elems + uptoBulkAll spare + 1
  | .agg parts => uptoBulkAll parts + 1
  | .iface _ d => uptoBulk d + 1
  | .map entries => uptoBulkEntries entries + 1
  | .held _ => 1
def uptoBulkAll {H : Type} : List (DataW H) → Nat
  | [] => 0
  | d :: r => uptoBulk d + uptoBulkAll r
def uptoBulkEntries {H : Type} : List (Lit × DataW H) → Nat
  | [] => 0
  | x :: r => uptoBulkEntry x + uptoBulkEntries r
def uptoBulkEntry {H : Type} : Lit × DataW H → Nat
  | (.string bytes, d) => bytes.length + uptoBulk d + 1
  | (_, d) => uptoBulk d + 1
 end
def uptoSmall : (H : Type) → List (DataW H) → Bool := fun _ ds => decide (uptoBulkAll ds ≤ 1048576)
def OpenSpec.upto (s : _root_.Go.ChangeSpec) : _root_.Go.OpenSpec := { _root_.Go.OpenSpec.ofChange s with cond := some uptoSmall }

/-- 'weirboxlaw05.TernTells', WHERE WHAT IT READS IS OF BULK AT MOST 1048576: true; the input reads as it did. -/
def ternTellsUptoRow : OpenClaim := { program := "ytpiboooclejjcaa", sum := "751bfc233220d12f30bb15adaf7de1fbd5650a0ec4126b6e83332e67dfcb7cda", func := "weirbox/weirboxlaw05.TernTells", spec := "ternTells", apart := false, narrowed := true }
def TernTellsUptoSaid : Prop := ternTellsUptoRow.holds Try.pinned (OpenSpec.upto ternTellsSpec)

/-- 'weirboxlaw05.TernMeet', WHERE WHAT IT READS IS OF BULK AT MOST 1048576: true; the input reads as it did. -/
def ternMeetUptoRow : OpenClaim := { program := "ytpiboooclejjcaa", sum := "751bfc233220d12f30bb15adaf7de1fbd5650a0ec4126b6e83332e67dfcb7cda", func := "weirbox/weirboxlaw05.TernMeet", spec := "ternMeet", apart := false, narrowed := true }
def TernMeetUptoSaid : Prop := ternMeetUptoRow.holds Try.pinned (OpenSpec.upto ternMeetSpec)

/-- 'weirboxlaw05.TernWithin', WHERE WHAT IT READS IS OF BULK AT MOST 1048576: true; the input reads as it did. -/
def ternWithinUptoRow : OpenClaim := { program := "ytpiboooclejjcaa", sum := "751bfc233220d12f30bb15adaf7de1fbd5650a0ec4126b6e83332e67dfcb7cda", func := "weirbox/weirboxlaw05.TernWithin", spec := "ternWithin", apart := false, narrowed := true }
def TernWithinUptoSaid : Prop := ternWithinUptoRow.holds Try.pinned (OpenSpec.upto ternWithinSpec)

/-- 'weirboxlaw05.TernFix', WHERE WHAT IT READS IS OF BULK AT MOST 1048576: true; the input reads as it did. -/
def ternFixUptoRow : OpenClaim := { program := "ytpiboooclejjcaa", sum := "751bfc233220d12f30bb15adaf7de1fbd5650a0ec4126b6e83332e67dfcb7cda", func := "weirbox/weirboxlaw05.TernFix", spec := "ternFix", apart := false, narrowed := true }
def TernFixUptoSaid : Prop := ternFixUptoRow.holds Try.pinned (OpenSpec.upto ternFixSpec)

/-- 'weirboxlaw06.CubeTells', WHERE WHAT IT READS IS OF BULK AT MOST 1048576: true; the input reads as it did. -/
def cubeTellsUptoRow : OpenClaim := { program := "ytpiboooclejjcaa", sum := "751bfc233220d12f30bb15adaf7de1fbd5650a0ec4126b6e83332e67dfcb7cda", func := "weirbox/weirboxlaw06.CubeTells", spec := "cubeTells", unfollowed := true, recurses := true, apart := false, narrowed := true }
def CubeTellsUptoSaid : Prop := cubeTellsUptoRow.holds Try.pinned (OpenSpec.upto cubeTellsSpec)

/-- 'weirboxlaw06.CubeMeet', WHERE WHAT IT READS IS OF BULK AT MOST 1048576: true; the input reads as it did. -/
def cubeMeetUptoRow : OpenClaim := { program := "ytpiboooclejjcaa", sum := "751bfc233220d12f30bb15adaf7de1fbd5650a0ec4126b6e83332e67dfcb7cda", func := "weirbox/weirboxlaw06.CubeMeet", spec := "cubeMeet", unfollowed := true, recurses := true, apart := false, narrowed := true }
def CubeMeetUptoSaid : Prop := cubeMeetUptoRow.holds Try.pinned (OpenSpec.upto cubeMeetSpec)

/-- 'weirboxlaw06.CubePick', WHERE WHAT IT READS IS OF BULK AT MOST 1048576: true; the input reads as it did. -/
def cubePickUptoRow : OpenClaim := { program := "ytpiboooclejjcaa", sum := "751bfc233220d12f30bb15adaf7de1fbd5650a0ec4126b6e83332e67dfcb7cda", func := "weirbox/weirboxlaw06.CubePick", spec := "cubePick", unfollowed := true, recurses := true, apart := false, narrowed := true }
def CubePickUptoSaid : Prop := cubePickUptoRow.holds Try.pinned (OpenSpec.upto cubePickSpec)

/-- 'weirboxlaw06.CubeWithin', WHERE WHAT IT READS IS OF BULK AT MOST 1048576: true; the input reads as it did. -/
def cubeWithinUptoRow : OpenClaim := { program := "ytpiboooclejjcaa", sum := "751bfc233220d12f30bb15adaf7de1fbd5650a0ec4126b6e83332e67dfcb7cda", func := "weirbox/weirboxlaw06.CubeWithin", spec := "cubeWithin", unfollowed := true, recurses := true, apart := false, narrowed := true }
def CubeWithinUptoSaid : Prop := cubeWithinUptoRow.holds Try.pinned (OpenSpec.upto cubeWithinSpec)

/-- 'weirboxlaw07.CarveApart', WHERE WHAT IT READS IS OF BULK AT MOST 1048576: true; the input reads as it did. -/
def carveApartUptoRow : OpenClaim := { program := "ytpiboooclejjcaa", sum := "751bfc233220d12f30bb15adaf7de1fbd5650a0ec4126b6e83332e67dfcb7cda", func := "weirbox/weirboxlaw07.CarveApart", spec := "carveApart", unfollowed := true, recurses := true, apart := false, narrowed := true }
def CarveApartUptoSaid : Prop := carveApartUptoRow.holds Try.pinned (OpenSpec.upto carveApartSpec)

/-- 'weirboxlaw07.CarveTells', WHERE WHAT IT READS IS OF BULK AT MOST 1048576: true; the input reads as it did. -/
def carveTellsUptoRow : OpenClaim := { program := "ytpiboooclejjcaa", sum := "751bfc233220d12f30bb15adaf7de1fbd5650a0ec4126b6e83332e67dfcb7cda", func := "weirbox/weirboxlaw07.CarveTells", spec := "carveTells", unfollowed := true, recurses := true, apart := false, narrowed := true }
def CarveTellsUptoSaid : Prop := carveTellsUptoRow.holds Try.pinned (OpenSpec.upto carveTellsSpec)

/-- 'weirboxlaw07.CarveStops', WHERE WHAT IT READS IS OF BULK AT MOST 1048576: true; the input reads as it did. -/
def carveStopsUptoRow : OpenClaim := { program := "ytpiboooclejjcaa", sum := "751bfc233220d12f30bb15adaf7de1fbd5650a0ec4126b6e83332e67dfcb7cda", func := "weirbox/weirboxlaw07.CarveStops", spec := "carveStops", unfollowed := true, recurses := true, apart := false, narrowed := true }
def CarveStopsUptoSaid : Prop := carveStopsUptoRow.holds Try.pinned (OpenSpec.upto carveStopsSpec)

end Rows
end Go.Proofs.Ytpiboooclejjcaa
