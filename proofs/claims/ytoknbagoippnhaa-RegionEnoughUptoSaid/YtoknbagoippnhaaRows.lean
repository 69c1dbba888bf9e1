/-
  No cell of these rows narrows 'for every input' (looked for: loops, veiled, ifaces, maps, wideKeys, modest, calm, conditions, laid).
  DERIVED. THE GIVEN ROWS OF THIS SEAT. 9 by the template 'for every input the law returns true; each argument reads behind the call as it read before'; 0 by the template 'total and deterministic' (their statements: YtoknbagoippnhaaTotals.lean).
  GIVEN WITH THE SEED: the statements are not yours to turn. If you find one false, say at which input.
  Laid BY PROGRAM, IN A SANDBOX (cutbox-rows.mjs): the forced cells as the released guide's own fill.sh prints them over the translation 61b95caf28912b97… (all of the seat's roots in one cut). By AI agents, Wed Nov 11 2026. No macro, syntax, notation, axiom, sorry.
-/
import Derived.Test.YtoknbagoippnhaaChecked
import GoSem.Claim
import GoSem.ClaimJoined
import GoSem.ClaimMapViews
import Derived.JoinedTies
import Derived.KernelRfl
namespace Go.Proofs.Ytoknbagoippnhaa
/- THE CELL 'sum', in the pinned program and in every row, IS THE sha256 OF THE DUMP (.gsa) THAT YtoknbagoippnhaaProg.lean LOADS. Nothing in Lean hashes anything: it is a label: what it is worth is what the hold of that sum in a sandbox is worth. -/
noncomputable def Try.pinned : Pinned := { name := "ytoknbagoippnhaa", sum := "61b95caf28912b971c874e72fafe3810ed5debdefaf541433a1337a9c392296f", checked := Try.checked }
namespace Rows
def none {H : Type} : Left H := { results := [], args := [] }

/-- 'weirboxlaw34.ShadowLooks': WHATEVER THE INPUT: true; the input reads as it did. -/
def shadowLooksSpec : ChangeSpec := { name := "shadowLooks", fn := fun _ => fun
  | [d1, d2, d3] => { results := [.lit (.bool true)], args := [d1, d2, d3] }
  | _ => none }
def shadowLooksRow : OpenClaim := { program := "ytoknbagoippnhaa", sum := "61b95caf28912b971c874e72fafe3810ed5debdefaf541433a1337a9c392296f", func := "weirbox/weirboxlaw34.ShadowLooks", spec := "shadowLooks", unfollowed := true, recurses := true, apart := false }
def ShadowLooksSaid : Prop := shadowLooksRow.holds Try.pinned (OpenSpec.ofChange shadowLooksSpec)

/-- ITS FALSE NEIGHBOUR: 'it returns false'. Refute it at one input. -/
def shadowLooksWrong : ChangeSpec := { name := "shadowLooks", fn := fun _ => fun
  | [d1, d2, d3] => { results := [.lit (.bool false)], args := [d1, d2, d3] }
  | _ => none }
def ShadowLooksWrongFalsely : Prop := shadowLooksRow.holds Try.pinned (OpenSpec.ofChange shadowLooksWrong)

/-- 'weirboxlaw34.ShadowEnough': WHATEVER THE INPUT: true; the input reads as it did. -/
def shadowEnoughSpec : ChangeSpec := { name := "shadowEnough", fn := fun _ => fun
  | [d1, d2] => { results := [.lit (.bool true)], args := [d1, d2] }
  | _ => none }
def shadowEnoughRow : OpenClaim := { program := "ytoknbagoippnhaa", sum := "61b95caf28912b971c874e72fafe3810ed5debdefaf541433a1337a9c392296f", func := "weirbox/weirboxlaw34.ShadowEnough", spec := "shadowEnough", unfollowed := true, recurses := true, apart := false }
def ShadowEnoughSaid : Prop := shadowEnoughRow.holds Try.pinned (OpenSpec.ofChange shadowEnoughSpec)

/-- ITS FALSE NEIGHBOUR: 'it returns false'. Refute it at one input. -/
def shadowEnoughWrong : ChangeSpec := { name := "shadowEnough", fn := fun _ => fun
  | [d1, d2] => { results := [.lit (.bool false)], args := [d1, d2] }
  | _ => none }
def ShadowEnoughWrongFalsely : Prop := shadowEnoughRow.holds Try.pinned (OpenSpec.ofChange shadowEnoughWrong)

/-- 'weirboxlaw37.RegionLooks': WHATEVER THE INPUT: true; the input reads as it did. -/
def regionLooksSpec : ChangeSpec := { name := "regionLooks", fn := fun _ => fun
  | [d1, d2, d3, d4, d5, d6] => { results := [.lit (.bool true)], args := [d1, d2, d3, d4, d5, d6] }
  | _ => none }
def regionLooksRow : OpenClaim := { program := "ytoknbagoippnhaa", sum := "61b95caf28912b971c874e72fafe3810ed5debdefaf541433a1337a9c392296f", func := "weirbox/weirboxlaw37.RegionLooks", spec := "regionLooks", unfollowed := true, recurses := true, apart := false }
def RegionLooksSaid : Prop := regionLooksRow.holds Try.pinned (OpenSpec.ofChange regionLooksSpec)

/-- ITS FALSE NEIGHBOUR: 'it returns false'. Refute it at one input. -/
def regionLooksWrong : ChangeSpec := { name := "regionLooks", fn := fun _ => fun
  | [d1, d2, d3, d4, d5, d6] => { results := [.lit (.bool false)], args := [d1, d2, d3, d4, d5, d6] }
  | _ => none }
def RegionLooksWrongFalsely : Prop := regionLooksRow.holds Try.pinned (OpenSpec.ofChange regionLooksWrong)

/-- 'weirboxlaw37.RegionEnough': WHATEVER THE INPUT: true; the input reads as it did. -/
def regionEnoughSpec : ChangeSpec := { name := "regionEnough", fn := fun _ => fun
  | [d1, d2, d3, d4, d5, d6] => { results := [.lit (.bool true)], args := [d1, d2, d3, d4, d5, d6] }
  | _ => none }
def regionEnoughRow : OpenClaim := { program := "ytoknbagoippnhaa", sum := "61b95caf28912b971c874e72fafe3810ed5debdefaf541433a1337a9c392296f", func := "weirbox/weirboxlaw37.RegionEnough", spec := "regionEnough", unfollowed := true, recurses := true, apart := false }
def RegionEnoughSaid : Prop := regionEnoughRow.holds Try.pinned (OpenSpec.ofChange regionEnoughSpec)

/-- ITS FALSE NEIGHBOUR: 'it returns false'. Refute it at one input. -/
def regionEnoughWrong : ChangeSpec := { name := "regionEnough", fn := fun _ => fun
  | [d1, d2, d3, d4, d5, d6] => { results := [.lit (.bool false)], args := [d1, d2, d3, d4, d5, d6] }
  | _ => none }
def RegionEnoughWrongFalsely : Prop := regionEnoughRow.holds Try.pinned (OpenSpec.ofChange regionEnoughWrong)

/-- 'weirboxlaw34.ShadowHit': WHATEVER THE INPUT: true; the input reads as it did. -/
def shadowHitSpec : ChangeSpec := { name := "shadowHit", fn := fun _ => fun
  | [d1, d2] => { results := [.lit (.bool true)], args := [d1, d2] }
  | _ => none }
def shadowHitRow : OpenClaim := { program := "ytoknbagoippnhaa", sum := "61b95caf28912b971c874e72fafe3810ed5debdefaf541433a1337a9c392296f", func := "weirbox/weirboxlaw34.ShadowHit", spec := "shadowHit", unfollowed := true, recurses := true, apart := false }
def ShadowHitSaid : Prop := shadowHitRow.holds Try.pinned (OpenSpec.ofChange shadowHitSpec)

/-- ITS FALSE NEIGHBOUR: 'it returns false'. Refute it at one input. -/
def shadowHitWrong : ChangeSpec := { name := "shadowHit", fn := fun _ => fun
  | [d1, d2] => { results := [.lit (.bool false)], args := [d1, d2] }
  | _ => none }
def ShadowHitWrongFalsely : Prop := shadowHitRow.holds Try.pinned (OpenSpec.ofChange shadowHitWrong)

/-- 'weirboxlaw37.RegionHits': WHATEVER THE INPUT: true; the input reads as it did. -/
def regionHitsSpec : ChangeSpec := { name := "regionHits", fn := fun _ => fun
  | [d1, d2, d3, d4, d5, d6, d7] => { results := [.lit (.bool true)], args := [d1, d2, d3, d4, d5, d6, d7] }
  | _ => none }
def regionHitsRow : OpenClaim := { program := "ytoknbagoippnhaa", sum := "61b95caf28912b971c874e72fafe3810ed5debdefaf541433a1337a9c392296f", func := "weirbox/weirboxlaw37.RegionHits", spec := "regionHits", unfollowed := true, recurses := true, apart := false }
def RegionHitsSaid : Prop := regionHitsRow.holds Try.pinned (OpenSpec.ofChange regionHitsSpec)

/-- ITS FALSE NEIGHBOUR: 'it returns false'. Refute it at one input. -/
def regionHitsWrong : ChangeSpec := { name := "regionHits", fn := fun _ => fun
  | [d1, d2, d3, d4, d5, d6, d7] => { results := [.lit (.bool false)], args := [d1, d2, d3, d4, d5, d6, d7] }
  | _ => none }
def RegionHitsWrongFalsely : Prop := regionHitsRow.holds Try.pinned (OpenSpec.ofChange regionHitsWrong)

/-- 'weirboxlaw37.RegionPairs': WHATEVER THE INPUT: true; the input reads as it did. -/
def regionPairsSpec : ChangeSpec := { name := "regionPairs", fn := fun _ => fun
  | [d1, d2, d3, d4] => { results := [.lit (.bool true)], args := [d1, d2, d3, d4] }
  | _ => none }
def regionPairsRow : OpenClaim := { program := "ytoknbagoippnhaa", sum := "61b95caf28912b971c874e72fafe3810ed5debdefaf541433a1337a9c392296f", func := "weirbox/weirboxlaw37.RegionPairs", spec := "regionPairs", unfollowed := true, recurses := true, apart := false }
def RegionPairsSaid : Prop := regionPairsRow.holds Try.pinned (OpenSpec.ofChange regionPairsSpec)

/-- ITS FALSE NEIGHBOUR: 'it returns false'. Refute it at one input. -/
def regionPairsWrong : ChangeSpec := { name := "regionPairs", fn := fun _ => fun
  | [d1, d2, d3, d4] => { results := [.lit (.bool false)], args := [d1, d2, d3, d4] }
  | _ => none }
def RegionPairsWrongFalsely : Prop := regionPairsRow.holds Try.pinned (OpenSpec.ofChange regionPairsWrong)

/-- 'weirboxlaw34.ShadowSame': WHATEVER THE INPUT: true; the input reads as it did. -/
def shadowSameSpec : ChangeSpec := { name := "shadowSame", fn := fun _ => fun
  | [d1, d2, d3] => { results := [.lit (.bool true)], args := [d1, d2, d3] }
  | _ => none }
def shadowSameRow : OpenClaim := { program := "ytoknbagoippnhaa", sum := "61b95caf28912b971c874e72fafe3810ed5debdefaf541433a1337a9c392296f", func := "weirbox/weirboxlaw34.ShadowSame", spec := "shadowSame", unfollowed := true, recurses := true, apart := false }
def ShadowSameSaid : Prop := shadowSameRow.holds Try.pinned (OpenSpec.ofChange shadowSameSpec)

/-- ITS FALSE NEIGHBOUR: 'it returns false'. Refute it at one input. -/
def shadowSameWrong : ChangeSpec := { name := "shadowSame", fn := fun _ => fun
  | [d1, d2, d3] => { results := [.lit (.bool false)], args := [d1, d2, d3] }
  | _ => none }
def ShadowSameWrongFalsely : Prop := shadowSameRow.holds Try.pinned (OpenSpec.ofChange shadowSameWrong)

/-- 'weirboxlaw34.ShadowDrops': WHATEVER THE INPUT: true; the input reads as it did. -/
def shadowDropsSpec : ChangeSpec := { name := "shadowDrops", fn := fun _ => fun
  | [d1, d2] => { results := [.lit (.bool true)], args := [d1, d2] }
  | _ => none }
def shadowDropsRow : OpenClaim := { program := "ytoknbagoippnhaa", sum := "61b95caf28912b971c874e72fafe3810ed5debdefaf541433a1337a9c392296f", func := "weirbox/weirboxlaw34.ShadowDrops", spec := "shadowDrops", unfollowed := true, recurses := true, apart := false }
def ShadowDropsSaid : Prop := shadowDropsRow.holds Try.pinned (OpenSpec.ofChange shadowDropsSpec)

/-- ITS FALSE NEIGHBOUR: 'it returns false'. Refute it at one input. -/
def shadowDropsWrong : ChangeSpec := { name := "shadowDrops", fn := fun _ => fun
  | [d1, d2] => { results := [.lit (.bool false)], args := [d1, d2] }
  | _ => none }
def ShadowDropsWrongFalsely : Prop := shadowDropsRow.holds Try.pinned (OpenSpec.ofChange shadowDropsWrong)

/- THE SECOND FORM. 'bulk': how many values and letters a reading holds, each counted each time it is reached (what is shared counts as often as it is met; a slice's spare places count too). A statement '..UptoSaid' is the law's where the arguments, and the package variables that the reading takes, are together of bulk at most 1048576: NARROWER than '..Said'. Prove '..Said' where nothing that the law and all that it calls make is longer than what came in: it says more and counts as full. Else prove '..UptoSaid'. A law counts once. -/
mutual
def uptoBulk {H : Type} : DataW H → Nat
  | .lit (.string bytes) => bytes.length + 1
  | .lit _ => 1
  | .nil => 1
  | .ptr d => uptoBulk d + 1
  | .slice elems spare => uptoBulkAll elems + uptoBulkAll spare + 1
  | .agg parts => uptoBulkAll parts + 1
  | .iface _ d => uptoBulk d + 1
  | .map entries => uptoBulkEntries entries + 1
  | .held _ => 1
def uptoBulkAll {H : Type} : List (DataW H) → Nat
  | [] => 0
  | d :: r => uptoBulk d + uptoBulkAll r
def uptoBulkEntries {H : Type} : List (Lit × DataW H) → Nat
  | [] => 0
  | x :: r => uptoBulkEntry x + uptoBulkEntries r
def uptoBulkEntry {H : Type} : Lit × DataW H → Nat
  | (.string bytes, d) => bytes.length + uptoBulk d + 1
  | (_, d) => uptoBulk d + 1
 end
def uptoSmall : (H : Type) → List (DataW H) → Bool := fun _ ds => decide (uptoBulkAll ds ≤ 1048576)
def OpenSpec.upto (s : _root_.Go.ChangeSpec) : _root_.Go.OpenSpec := { _root_.Go.OpenSpec.ofChange s with cond := some uptoSmall }

/-- 'weirboxlaw34.ShadowLooks', WHERE WHAT IT READS IS OF BULK AT MOST 1048576: true; the input reads as it did. -/
def shadowLooksUptoRow : OpenClaim := { program := "ytoknbagoippnhaa", sum := "61b95caf28912b971c874e72fafe3810ed5debdefaf541433a1337a9c392296f", func := "weirbox/weirboxlaw34.ShadowLooks", spec := "shadowLooks", unfollowed := true, recurses := true, apart := false, narrowed := true }
def ShadowLooksUptoSaid : Prop := shadowLooksUptoRow.holds Try.pinned (OpenSpec.upto shadowLooksSpec)

/-- 'weirboxlaw34.ShadowEnough', WHERE WHAT IT READS IS OF BULK AT MOST 1048576: true; the input reads as it did. -/
def shadowEnoughUptoRow : OpenClaim := { program := "ytoknbagoippnhaa", sum := "61b95caf28912b971c874e72fafe3810ed5debdefaf541433a1337a9c392296f", func := "weirbox/weirboxlaw34.ShadowEnough", spec := "shadowEnough", unfollowed := true, recurses := true, apart := false, narrowed := true }
def ShadowEnoughUptoSaid : Prop := shadowEnoughUptoRow.holds Try.pinned (OpenSpec.upto shadowEnoughSpec)

/-- 'weirboxlaw37.RegionLooks', WHERE WHAT IT READS IS OF BULK AT MOST 1048576: true; the input reads as it did. -/
def regionLooksUptoRow : OpenClaim := { program := "ytoknbagoippnhaa", sum := "61b95caf28912b971c874e72fafe3810ed5debdefaf541433a1337a9c392296f", func := "weirbox/weirboxlaw37.RegionLooks", spec := "regionLooks", unfollowed := true, recurses := true, apart := false, narrowed := true }
def RegionLooksUptoSaid : Prop := regionLooksUptoRow.holds Try.pinned (OpenSpec.upto regionLooksSpec)

/-- 'weirboxlaw37.RegionEnough', WHERE WHAT IT READS IS OF BULK AT MOST 1048576: true; the input reads as it did. -/
def regionEnoughUptoRow : OpenClaim := { program := "ytoknbagoippnhaa", sum := "61b95caf28912b971c874e72fafe3810ed5debdefaf541433a1337a9c392296f", func := "weirbox/weirboxlaw37.RegionEnough", spec := "regionEnough", unfollowed := true, recurses := true, apart := false, narrowed := true }
def RegionEnoughUptoSaid : Prop := regionEnoughUptoRow.holds Try.pinned (OpenSpec.upto regionEnoughSpec)

/-- 'weirboxlaw34.ShadowHit', WHERE WHAT IT READS IS OF BULK AT MOST 1048576: true; the input reads as it did. -/
def shadowHitUptoRow : OpenClaim := { program := "ytoknbagoippnhaa", sum := "61b95caf28912b971c874e72fafe3810ed5debdefaf541433a1337a9c392296f", func := "weirbox/weirboxlaw34.ShadowHit", spec := "shadowHit", unfollowed := true, recurses := true, apart := false, narrowed := true }
def ShadowHitUptoSaid : Prop := shadowHitUptoRow.holds Try.pinned (OpenSpec.upto shadowHitSpec)

/-- 'weirboxlaw37.RegionHits', WHERE WHAT IT READS IS OF BULK AT MOST 1048576: true; the input reads as it did. -/
def regionHitsUptoRow : OpenClaim := { program := "ytoknbagoippnhaa", sum := "61b95caf28912b971c874e72fafe3810ed5debdefaf541433a1337a9c392296f", func := "weirbox/weirboxlaw37.RegionHits", spec := "regionHits", unfollowed := true, recurses := true, apart := false, narrowed := true }
def RegionHitsUptoSaid : Prop := regionHitsUptoRow.holds Try.pinned (OpenSpec.upto regionHitsSpec)

/-- 'weirboxlaw37.RegionPairs', WHERE WHAT IT READS IS OF BULK AT MOST 1048576: true; the input reads as it did. -/
def regionPairsUptoRow : OpenClaim := { program := "ytoknbagoippnhaa", sum := "61b95caf28912b971c874e72fafe3810ed5debdefaf541433a1337a9c392296f", func := "weirbox/weirboxlaw37.RegionPairs", spec := "regionPairs", unfollowed := true, recurses := true, apart := false, narrowed := true }
def RegionPairsUptoSaid : Prop := regionPairsUptoRow.holds Try.pinned (OpenSpec.upto regionPairsSpec)

/-- 'weirboxlaw34.ShadowSame', WHERE WHAT IT READS IS OF BULK AT MOST 1048576: true; the input reads as it did. -/
def shadowSameUptoRow : OpenClaim := { program := "ytoknbagoippnhaa", sum := "61b95caf28912b971c874e72fafe3810ed5debdefaf541433a1337a9c392296f", func := "weirbox/weirboxlaw34.ShadowSame", spec := "shadowSame", unfollowed := true, recurses := true, apart := false, narrowed := true }
def ShadowSameUptoSaid : Prop := shadowSameUptoRow.holds Try.pinned (OpenSpec.upto shadowSameSpec)

/-- 'weirboxlaw34.ShadowDrops', WHERE WHAT IT READS IS OF BULK AT MOST 1048576: true; the input reads as it did. -/
def shadowDropsUptoRow : OpenClaim := { program := "ytoknbagoippnhaa", sum := "61b95caf28912b971c874e72fafe3810ed5debdefaf541433a1337a9c392296f", func := "weirbox/weirboxlaw34.ShadowDrops", spec := "shadowDrops", unfollowed := true, recurses := true, apart := false, narrowed := true }
def ShadowDropsUptoSaid : Prop := shadowDropsUptoRow.holds Try.pinned (OpenSpec.upto shadowDropsSpec)

end Rows
end Go.Proofs.Ytoknbagoippnhaa
