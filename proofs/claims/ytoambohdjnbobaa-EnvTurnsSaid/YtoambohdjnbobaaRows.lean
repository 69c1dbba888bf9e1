/-
  No cell of these rows narrows 'for every input' (looked for: loops, veiled, ifaces, maps, wideKeys, modest, calm, conditions, laid).
  DERIVED. THE GIVEN ROWS OF THIS SEAT. 12 by the template 'for every input the law returns true; each argument reads behind the call as it read before'; 0 by the template 'total and deterministic' (their statements: YtoambohdjnbobaaTotals.lean).
  GIVEN WITH THE SEED: the statements are not yours to turn. If you find one false, say at which input.
  Laid BY PROGRAM, IN A SANDBOX (cutbox-rows.mjs): the forced cells as the released guide's own fill.sh prints them over the translation 5d16bfc249f9e709… (all of the seat's roots in one cut). By AI agents, Wed Nov 11 2026. No macro, syntax, notation, axiom, sorry.
-/
import Derived.Test.YtoambohdjnbobaaChecked
import GoSem.Claim
import GoSem.ClaimJoined
import GoSem.ClaimMapViews
import Derived.JoinedTies
import Derived.KernelRfl
namespace Go.Proofs.Ytoambohdjnbobaa
/- THE CELL 'sum', in the pinned program and in every row, IS THE sha256 OF THE DUMP (.gsa) THAT YtoambohdjnbobaaProg.lean LOADS. Nothing in Lean hashes anything: it is a label: what it is worth is what the hold of that sum in a sandbox is worth. -/
noncomputable def Try.pinned : Pinned := { name := "ytoambohdjnbobaa", sum := "5d16bfc249f9e709cbba1a9b8df8b12c9746f7194d313527a86786d1d15fd862", checked := Try.checked }
namespace Rows
def none {H : Type} : Left H := { results := [], args := [] }

/-- 'weirboxlaw01.NumGets': WHATEVER THE INPUT: true; the input reads as it did. -/
def numGetsSpec : ChangeSpec := { name := "numGets", fn := fun _ => fun
  | [d1, d2, d3] => { results := [.lit (.bool true)], args := [d1, d2, d3] }
  | _ => none }
def numGetsRow : OpenClaim := { program := "ytoambohdjnbobaa", sum := "5d16bfc249f9e709cbba1a9b8df8b12c9746f7194d313527a86786d1d15fd862", func := "weirbox/weirboxlaw01.NumGets", spec := "numGets", apart := false }
def NumGetsSaid : Prop := numGetsRow.holds Try.pinned (OpenSpec.ofChange numGetsSpec)

/-- ITS FALSE NEIGHBOUR: 'it returns false'. Refute it at one input. -/
def numGetsWrong : ChangeSpec := { name := "numGets", fn := fun _ => fun
  | [d1, d2, d3] => { results := [.lit (.bool false)], args := [d1, d2, d3] }
  | _ => none }
def NumGetsWrongFalsely : Prop := numGetsRow.holds Try.pinned (OpenSpec.ofChange numGetsWrong)

/-- 'weirboxlaw01.NumBack': WHATEVER THE INPUT: true; the input reads as it did. -/
def numBackSpec : ChangeSpec := { name := "numBack", fn := fun _ => fun
  | [d1, d2, d3] => { results := [.lit (.bool true)], args := [d1, d2, d3] }
  | _ => none }
def numBackRow : OpenClaim := { program := "ytoambohdjnbobaa", sum := "5d16bfc249f9e709cbba1a9b8df8b12c9746f7194d313527a86786d1d15fd862", func := "weirbox/weirboxlaw01.NumBack", spec := "numBack", apart := false }
def NumBackSaid : Prop := numBackRow.holds Try.pinned (OpenSpec.ofChange numBackSpec)

/-- ITS FALSE NEIGHBOUR: 'it returns false'. Refute it at one input. -/
def numBackWrong : ChangeSpec := { name := "numBack", fn := fun _ => fun
  | [d1, d2, d3] => { results := [.lit (.bool false)], args := [d1, d2, d3] }
  | _ => none }
def NumBackWrongFalsely : Prop := numBackRow.holds Try.pinned (OpenSpec.ofChange numBackWrong)

/-- 'weirboxlaw01.NumPuts': WHATEVER THE INPUT: true; the input reads as it did. -/
def numPutsSpec : ChangeSpec := { name := "numPuts", fn := fun _ => fun
  | [d1, d2, d3] => { results := [.lit (.bool true)], args := [d1, d2, d3] }
  | _ => none }
def numPutsRow : OpenClaim := { program := "ytoambohdjnbobaa", sum := "5d16bfc249f9e709cbba1a9b8df8b12c9746f7194d313527a86786d1d15fd862", func := "weirbox/weirboxlaw01.NumPuts", spec := "numPuts", apart := false }
def NumPutsSaid : Prop := numPutsRow.holds Try.pinned (OpenSpec.ofChange numPutsSpec)

/-- ITS FALSE NEIGHBOUR: 'it returns false'. Refute it at one input. -/
def numPutsWrong : ChangeSpec := { name := "numPuts", fn := fun _ => fun
  | [d1, d2, d3] => { results := [.lit (.bool false)], args := [d1, d2, d3] }
  | _ => none }
def NumPutsWrongFalsely : Prop := numPutsRow.holds Try.pinned (OpenSpec.ofChange numPutsWrong)

/-- 'weirboxlaw09.RewriteTells': WHATEVER THE INPUT: true; the input reads as it did. -/
def rewriteTellsSpec : ChangeSpec := { name := "rewriteTells", fn := fun _ => fun
  | [d1, d2, d3, d4] => { results := [.lit (.bool true)], args := [d1, d2, d3, d4] }
  | _ => none }
def rewriteTellsRow : OpenClaim := { program := "ytoambohdjnbobaa", sum := "5d16bfc249f9e709cbba1a9b8df8b12c9746f7194d313527a86786d1d15fd862", func := "weirbox/weirboxlaw09.RewriteTells", spec := "rewriteTells", unfollowed := true, recurses := true, apart := false }
def RewriteTellsSaid : Prop := rewriteTellsRow.holds Try.pinned (OpenSpec.ofChange rewriteTellsSpec)

/-- ITS FALSE NEIGHBOUR: 'it returns false'. Refute it at one input. -/
def rewriteTellsWrong : ChangeSpec := { name := "rewriteTells", fn := fun _ => fun
  | [d1, d2, d3, d4] => { results := [.lit (.bool false)], args := [d1, d2, d3, d4] }
  | _ => none }
def RewriteTellsWrongFalsely : Prop := rewriteTellsRow.holds Try.pinned (OpenSpec.ofChange rewriteTellsWrong)

/-- 'weirboxlaw09.RewriteSets': WHATEVER THE INPUT: true; the input reads as it did. -/
def rewriteSetsSpec : ChangeSpec := { name := "rewriteSets", fn := fun _ => fun
  | [d1, d2, d3, d4] => { results := [.lit (.bool true)], args := [d1, d2, d3, d4] }
  | _ => none }
def rewriteSetsRow : OpenClaim := { program := "ytoambohdjnbobaa", sum := "5d16bfc249f9e709cbba1a9b8df8b12c9746f7194d313527a86786d1d15fd862", func := "weirbox/weirboxlaw09.RewriteSets", spec := "rewriteSets", unfollowed := true, recurses := true, apart := false }
def RewriteSetsSaid : Prop := rewriteSetsRow.holds Try.pinned (OpenSpec.ofChange rewriteSetsSpec)

/-- ITS FALSE NEIGHBOUR: 'it returns false'. Refute it at one input. -/
def rewriteSetsWrong : ChangeSpec := { name := "rewriteSets", fn := fun _ => fun
  | [d1, d2, d3, d4] => { results := [.lit (.bool false)], args := [d1, d2, d3, d4] }
  | _ => none }
def RewriteSetsWrongFalsely : Prop := rewriteSetsRow.holds Try.pinned (OpenSpec.ofChange rewriteSetsWrong)

/-- 'weirboxlaw09.RewriteThen': WHATEVER THE INPUT: true; the input reads as it did. -/
def rewriteThenSpec : ChangeSpec := { name := "rewriteThen", fn := fun _ => fun
  | [d1, d2, d3, d4] => { results := [.lit (.bool true)], args := [d1, d2, d3, d4] }
  | _ => none }
def rewriteThenRow : OpenClaim := { program := "ytoambohdjnbobaa", sum := "5d16bfc249f9e709cbba1a9b8df8b12c9746f7194d313527a86786d1d15fd862", func := "weirbox/weirboxlaw09.RewriteThen", spec := "rewriteThen", unfollowed := true, recurses := true, apart := false }
def RewriteThenSaid : Prop := rewriteThenRow.holds Try.pinned (OpenSpec.ofChange rewriteThenSpec)

/-- ITS FALSE NEIGHBOUR: 'it returns false'. Refute it at one input. -/
def rewriteThenWrong : ChangeSpec := { name := "rewriteThen", fn := fun _ => fun
  | [d1, d2, d3, d4] => { results := [.lit (.bool false)], args := [d1, d2, d3, d4] }
  | _ => none }
def RewriteThenWrongFalsely : Prop := rewriteThenRow.holds Try.pinned (OpenSpec.ofChange rewriteThenWrong)

/-- 'weirboxlaw29.EnvTells': WHATEVER THE INPUT: true; the input reads as it did. -/
def envTellsSpec : ChangeSpec := { name := "envTells", fn := fun _ => fun
  | [d1, d2, d3, d4] => { results := [.lit (.bool true)], args := [d1, d2, d3, d4] }
  | _ => none }
def envTellsRow : OpenClaim := { program := "ytoambohdjnbobaa", sum := "5d16bfc249f9e709cbba1a9b8df8b12c9746f7194d313527a86786d1d15fd862", func := "weirbox/weirboxlaw29.EnvTells", spec := "envTells", unfollowed := true, recurses := true, apart := false }
def EnvTellsSaid : Prop := envTellsRow.holds Try.pinned (OpenSpec.ofChange envTellsSpec)

/-- ITS FALSE NEIGHBOUR: 'it returns false'. Refute it at one input. -/
def envTellsWrong : ChangeSpec := { name := "envTells", fn := fun _ => fun
  | [d1, d2, d3, d4] => { results := [.lit (.bool false)], args := [d1, d2, d3, d4] }
  | _ => none }
def EnvTellsWrongFalsely : Prop := envTellsRow.holds Try.pinned (OpenSpec.ofChange envTellsWrong)

/-- 'weirboxlaw29.EnvTurns': WHATEVER THE INPUT: true; the input reads as it did. -/
def envTurnsSpec : ChangeSpec := { name := "envTurns", fn := fun _ => fun
  | [d1, d2, d3] => { results := [.lit (.bool true)], args := [d1, d2, d3] }
  | _ => none }
def envTurnsRow : OpenClaim := { program := "ytoambohdjnbobaa", sum := "5d16bfc249f9e709cbba1a9b8df8b12c9746f7194d313527a86786d1d15fd862", func := "weirbox/weirboxlaw29.EnvTurns", spec := "envTurns", unfollowed := true, recurses := true, apart := false }
def EnvTurnsSaid : Prop := envTurnsRow.holds Try.pinned (OpenSpec.ofChange envTurnsSpec)

/-- ITS FALSE NEIGHBOUR: 'it returns false'. Refute it at one input. -/
def envTurnsWrong : ChangeSpec := { name := "envTurns", fn := fun _ => fun
  | [d1, d2, d3] => { results := [.lit (.bool false)], args := [d1, d2, d3] }
  | _ => none }
def EnvTurnsWrongFalsely : Prop := envTurnsRow.holds Try.pinned (OpenSpec.ofChange envTurnsWrong)

/-- 'weirboxlaw29.EnvFast': WHATEVER THE INPUT: true; the input reads as it did. -/
def envFastSpec : ChangeSpec := { name := "envFast", fn := fun _ => fun
  | [d1, d2] => { results := [.lit (.bool true)], args := [d1, d2] }
  | _ => none }
def envFastRow : OpenClaim := { program := "ytoambohdjnbobaa", sum := "5d16bfc249f9e709cbba1a9b8df8b12c9746f7194d313527a86786d1d15fd862", func := "weirbox/weirboxlaw29.EnvFast", spec := "envFast", unfollowed := true, recurses := true, apart := false }
def EnvFastSaid : Prop := envFastRow.holds Try.pinned (OpenSpec.ofChange envFastSpec)

/-- ITS FALSE NEIGHBOUR: 'it returns false'. Refute it at one input. -/
def envFastWrong : ChangeSpec := { name := "envFast", fn := fun _ => fun
  | [d1, d2] => { results := [.lit (.bool false)], args := [d1, d2] }
  | _ => none }
def EnvFastWrongFalsely : Prop := envFastRow.holds Try.pinned (OpenSpec.ofChange envFastWrong)

/-- 'weirboxlaw29.EnvSelect': WHATEVER THE INPUT: true; the input reads as it did. -/
def envSelectSpec : ChangeSpec := { name := "envSelect", fn := fun _ => fun
  | [d1, d2] => { results := [.lit (.bool true)], args := [d1, d2] }
  | _ => none }
def envSelectRow : OpenClaim := { program := "ytoambohdjnbobaa", sum := "5d16bfc249f9e709cbba1a9b8df8b12c9746f7194d313527a86786d1d15fd862", func := "weirbox/weirboxlaw29.EnvSelect", spec := "envSelect", unfollowed := true, recurses := true, apart := false }
def EnvSelectSaid : Prop := envSelectRow.holds Try.pinned (OpenSpec.ofChange envSelectSpec)

/-- ITS FALSE NEIGHBOUR: 'it returns false'. Refute it at one input. -/
def envSelectWrong : ChangeSpec := { name := "envSelect", fn := fun _ => fun
  | [d1, d2] => { results := [.lit (.bool false)], args := [d1, d2] }
  | _ => none }
def EnvSelectWrongFalsely : Prop := envSelectRow.holds Try.pinned (OpenSpec.ofChange envSelectWrong)

/-- 'weirboxlaw09.RewriteBefore': WHATEVER THE INPUT: true; the input reads as it did. -/
def rewriteBeforeSpec : ChangeSpec := { name := "rewriteBefore", fn := fun _ => fun
  | [d1, d2, d3] => { results := [.lit (.bool true)], args := [d1, d2, d3] }
  | _ => none }
def rewriteBeforeRow : OpenClaim := { program := "ytoambohdjnbobaa", sum := "5d16bfc249f9e709cbba1a9b8df8b12c9746f7194d313527a86786d1d15fd862", func := "weirbox/weirboxlaw09.RewriteBefore", spec := "rewriteBefore", unfollowed := true, recurses := true, apart := false }
def RewriteBeforeSaid : Prop := rewriteBeforeRow.holds Try.pinned (OpenSpec.ofChange rewriteBeforeSpec)

/-- ITS FALSE NEIGHBOUR: 'it returns false'. Refute it at one input. -/
def rewriteBeforeWrong : ChangeSpec := { name := "rewriteBefore", fn := fun _ => fun
  | [d1, d2, d3] => { results := [.lit (.bool false)], args := [d1, d2, d3] }
  | _ => none }
def RewriteBeforeWrongFalsely : Prop := rewriteBeforeRow.holds Try.pinned (OpenSpec.ofChange rewriteBeforeWrong)

/-- 'weirboxlaw09.RewriteAfter': WHATEVER THE INPUT: true; the input reads as it did. -/
def rewriteAfterSpec : ChangeSpec := { name := "rewriteAfter", fn := fun _ => fun
  | [d1, d2, d3] => { results := [.lit (.bool true)], args := [d1, d2, d3] }
  | _ => none }
def rewriteAfterRow : OpenClaim := { program := "ytoambohdjnbobaa", sum := "5d16bfc249f9e709cbba1a9b8df8b12c9746f7194d313527a86786d1d15fd862", func := "weirbox/weirboxlaw09.RewriteAfter", spec := "rewriteAfter", unfollowed := true, recurses := true, apart := false }
def RewriteAfterSaid : Prop := rewriteAfterRow.holds Try.pinned (OpenSpec.ofChange rewriteAfterSpec)

/-- ITS FALSE NEIGHBOUR: 'it returns false'. Refute it at one input. -/
def rewriteAfterWrong : ChangeSpec := { name := "rewriteAfter", fn := fun _ => fun
  | [d1, d2, d3] => { results := [.lit (.bool false)], args := [d1, d2, d3] }
  | _ => none }
def RewriteAfterWrongFalsely : Prop := rewriteAfterRow.holds Try.pinned (OpenSpec.ofChange rewriteAfterWrong)

/- THE SECOND FORM. 'bulk': how many values and letters a reading holds, each counted each time it is reached (what is shared counts as often as it is met; a slice's spare places count too). A statement '..UptoSaid' is the law's where the arguments, and the package variables that the reading takes, are together of bulk at most 1048576: NARROWER than '..Said'. Prove '..Said' where nothing that the law and all that it calls make is longer than what came in: it says more and counts as full. Else prove '..UptoSaid'. A law counts once. -/
mutual
def uptoBulk {H : Type} : DataW H → Nat
  | .lit (.string bytes) => bytes.length + 1
  | .lit _ => 1
  | .nil => 1
  | .ptr d => uptoBulk d + 1
  | .slice elems spare => uptoBulkAll elems + uptoBulkAll spare + 1
  | .agg parts => uptoBulkAll parts + 1
  | .iface _ d => uptoBulk d + 1
  | .map entries => uptoBulkEntries entries + 1
  | .held _ => 1
def uptoBulkAll {H : Type} : List (DataW H) → Nat
  | [] => 0
  | d :: r => uptoBulk d + uptoBulkAll r
def uptoBulkEntries {H : Type} : List (Lit × DataW H) → Nat
  | [] => 0
  | x :: r => uptoBulkEntry x + uptoBulkEntries r
def uptoBulkEntry {H : Type} : Lit × DataW H → Nat
  | (.string bytes, d) => bytes.length + uptoBulk d + 1
  | (_, d) => uptoBulk d + 1
 end
def uptoSmall : (H : Type) → List (DataW H) → Bool := fun _ ds => decide (uptoBulkAll ds ≤ 1048576)
def OpenSpec.upto (s : _root_.Go.ChangeSpec) : _root_.Go.OpenSpec := { _root_.Go.OpenSpec.ofChange s with cond := some uptoSmall }

/-- 'weirboxlaw01.NumGets', WHERE WHAT IT READS IS OF BULK AT MOST 1048576: true; the input reads as it did. -/
def numGetsUptoRow : OpenClaim := { program := "ytoambohdjnbobaa", sum := "5d16bfc249f9e709cbba1a9b8df8b12c9746f7194d313527a86786d1d15fd862", func := "weirbox/weirboxlaw01.NumGets", spec := "numGets", apart := false, narrowed := true }
def NumGetsUptoSaid : Prop := numGetsUptoRow.holds Try.pinned (OpenSpec.upto numGetsSpec)

/-- 'weirboxlaw01.NumBack', WHERE WHAT IT READS IS OF BULK AT MOST 1048576: true; the input reads as it did. -/
def numBackUptoRow : OpenClaim := { program := "ytoambohdjnbobaa", sum := "5d16bfc249f9e709cbba1a9b8df8b12c9746f7194d313527a86786d1d15fd862", func := "weirbox/weirboxlaw01.NumBack", spec := "numBack", apart := false, narrowed := true }
def NumBackUptoSaid : Prop := numBackUptoRow.holds Try.pinned (OpenSpec.upto numBackSpec)

/-- 'weirboxlaw01.NumPuts', WHERE WHAT IT READS IS OF BULK AT MOST 1048576: true; the input reads as it did. -/
def numPutsUptoRow : OpenClaim := { program := "ytoambohdjnbobaa", sum := "5d16bfc249f9e709cbba1a9b8df8b12c9746f7194d313527a86786d1d15fd862", func := "weirbox/weirboxlaw01.NumPuts", spec := "numPuts", apart := false, narrowed := true }
def NumPutsUptoSaid : Prop := numPutsUptoRow.holds Try.pinned (OpenSpec.upto numPutsSpec)

/-- 'weirboxlaw09.RewriteTells', WHERE WHAT IT READS IS OF BULK AT MOST 1048576: true; the input reads as it did. -/
def rewriteTellsUptoRow : OpenClaim := { program := "ytoambohdjnbobaa", sum := "5d16bfc249f9e709cbba1a9b8df8b12c9746f7194d313527a86786d1d15fd862", func := "weirbox/weirboxlaw09.RewriteTells", spec := "rewriteTells", unfollowed := true, recurses := true, apart := false, narrowed := true }
def RewriteTellsUptoSaid : Prop := rewriteTellsUptoRow.holds Try.pinned (OpenSpec.upto rewriteTellsSpec)

/-- 'weirboxlaw09.RewriteSets', WHERE WHAT IT READS IS OF BULK AT MOST 1048576: true; the input reads as it did. -/
def rewriteSetsUptoRow : OpenClaim := { program := "ytoambohdjnbobaa", sum := "5d16bfc249f9e709cbba1a9b8df8b12c9746f7194d313527a86786d1d15fd862", func := "weirbox/weirboxlaw09.RewriteSets", spec := "rewriteSets", unfollowed := true, recurses := true, apart := false, narrowed := true }
def RewriteSetsUptoSaid : Prop := rewriteSetsUptoRow.holds Try.pinned (OpenSpec.upto rewriteSetsSpec)

/-- 'weirboxlaw09.RewriteThen', WHERE WHAT IT READS IS OF BULK AT MOST 1048576: true; the input reads as it did. -/
def rewriteThenUptoRow : OpenClaim := { program := "ytoambohdjnbobaa", sum := "5d16bfc249f9e709cbba1a9b8df8b12c9746f7194d313527a86786d1d15fd862", func := "weirbox/weirboxlaw09.RewriteThen", spec := "rewriteThen", unfollowed := true, recurses := true, apart := false, narrowed := true }
def RewriteThenUptoSaid : Prop := rewriteThenUptoRow.holds Try.pinned (OpenSpec.upto rewriteThenSpec)

/-- 'weirboxlaw29.EnvTells', WHERE WHAT IT READS IS OF BULK AT MOST 1048576: true; the input reads as it did. -/
def envTellsUptoRow : OpenClaim := { program := "ytoambohdjnbobaa", sum := "5d16bfc249f9e709cbba1a9b8df8b12c9746f7194d313527a86786d1d15fd862", func := "weirbox/weirboxlaw29.EnvTells", spec := "envTells", unfollowed := true, recurses := true, apart := false, narrowed := true }
def EnvTellsUptoSaid : Prop := envTellsUptoRow.holds Try.pinned (OpenSpec.upto envTellsSpec)

/-- 'weirboxlaw29.EnvTurns', WHERE WHAT IT READS IS OF BULK AT MOST 1048576: true; the input reads as it did. -/
def envTurnsUptoRow : OpenClaim := { program := "ytoambohdjnbobaa", sum := "5d16bfc249f9e709cbba1a9b8df8b12c9746f7194d313527a86786d1d15fd862", func := "weirbox/weirboxlaw29.EnvTurns", spec := "envTurns", unfollowed := true, recurses := true, apart := false, narrowed := true }
def EnvTurnsUptoSaid : Prop := envTurnsUptoRow.holds Try.pinned (OpenSpec.upto envTurnsSpec)

/-- 'weirboxlaw29.EnvFast', WHERE WHAT IT READS IS OF BULK AT MOST 1048576: true; the input reads as it did. -/
def envFastUptoRow : OpenClaim := { program := "ytoambohdjnbobaa", sum := "5d16bfc249f9e709cbba1a9b8df8b12c9746f7194d313527a86786d1d15fd862", func := "weirbox/weirboxlaw29.EnvFast", spec := "envFast", unfollowed := true, recurses := true, apart := false, narrowed := true }
def EnvFastUptoSaid : Prop := envFastUptoRow.holds Try.pinned (OpenSpec.upto envFastSpec)

/-- 'weirboxlaw29.EnvSelect', WHERE WHAT IT READS IS OF BULK AT MOST 1048576: true; the input reads as it did. -/
def envSelectUptoRow : OpenClaim := { program := "ytoambohdjnbobaa", sum := "5d16bfc249f9e709cbba1a9b8df8b12c9746f7194d313527a86786d1d15fd862", func := "weirbox/weirboxlaw29.EnvSelect", spec := "envSelect", unfollowed := true, recurses := true, apart := false, narrowed := true }
def EnvSelectUptoSaid : Prop := envSelectUptoRow.holds Try.pinned (OpenSpec.upto envSelectSpec)

/-- 'weirboxlaw09.RewriteBefore', WHERE WHAT IT READS IS OF BULK AT MOST 1048576: true; the input reads as it did. -/
def rewriteBeforeUptoRow : OpenClaim := { program := "ytoambohdjnbobaa", sum := "5d16bfc249f9e709cbba1a9b8df8b12c9746f7194d313527a86786d1d15fd862", func := "weirbox/weirboxlaw09.RewriteBefore", spec := "rewriteBefore", unfollowed := true, recurses := true, apart := false, narrowed := true }
def RewriteBeforeUptoSaid : Prop := rewriteBeforeUptoRow.holds Try.pinned (OpenSpec.upto rewriteBeforeSpec)

/-- 'weirboxlaw09.RewriteAfter', WHERE WHAT IT READS IS OF BULK AT MOST 1048576: true; the input reads as it did. -/
def rewriteAfterUptoRow : OpenClaim := { program := "ytoambohdjnbobaa", sum := "5d16bfc249f9e709cbba1a9b8df8b12c9746f7194d313527a86786d1d15fd862", func := "weirbox/weirboxlaw09.RewriteAfter", spec := "rewriteAfter", unfollowed := true, recurses := true, apart := false, narrowed := true }
def RewriteAfterUptoSaid : Prop := rewriteAfterUptoRow.holds Try.pinned (OpenSpec.upto rewriteAfterSpec)

end Rows
end Go.Proofs.Ytoambohdjnbobaa
