/- Proved: GroupTells returns true for every input, and each argument reads behind the call as it read before. No condition. -/
import Derived.Test.YtagpigbfbhdoiaaRows
import Derived.Test.YtagpigbfbhdoiaaW
import Derived.Test.YtagpigbfbhdoiaaPGroupLaws
import Derived.WalkKit
import Derived.ProofKit
import Derived.OpenShut
import Derived.ShutString
import Derived.ChangeOld
import Derived.Below
import Derived.SizedLaws
namespace Go.Proofs.Ytagpigbfbhdoiaa.groupTells
open Go.ChangeShapes Go.WideShapes Go.ChangeAt Go.RowKit

theorem own : ownKnob Try.prog.godebug = none := by kernel_rfl
theorem laidOut : laidOutB Try.prog = true := by kernel_rfl
theorem rd : Go.Vi.rdTab Go.Fn.tab = true := by kernel_rfl
def τs : List Go.Vi.Ty := Go.Fn.law24_GroupTells.τs
set_option maxRecDepth 100000 in
theorem lifted (os : Os) (started : os.Started) (H : Type) (enc : TypeId × Value → H) :
    ReturnsInHanded {} Try.checked os 14 .any (Rows.groupTellsSpec.pre6 enc Try.prog Try.f14 Rows.groupTellsRow.domain false) (Rows.groupTellsSpec.post enc Try.prog Try.f14 false true false false) := by
  refine returnsInHanded_of_change_sized (C := Try.checked) own started (by kernel_rfl) Try.func14
    (ChangeSpec.witness6 (enc := enc) (C := Try.checked) false ⟨#[], #[.slice none 0 0, .slice none 0 0, .int .i64 0, .int .i64 0], []⟩ 8 (by kernel_rfl) (by kernel_rfl) (by kernel_rfl) (by kernel_rfl)) ?_
  intro W base args ds gs before hval0 hW hcnd hsz0 _
  have hsz : (DataW.weightsEach Try.prog (Try.f14.params.toList ++ Rows.groupTellsSpec.plain.varTypes Try.prog) (ds ++ gs)).all (· ≤ reachBytes) = true := hsz0
  have hval : ∀ (j : Nat) t v, Try.f14.params[j]? = some t → args[j]? = some v → Value.okWide Try.prog W .any base t v := hval0
  have hW' := hW
  obtain ⟨p, q, hA0, hV, rfl, hfz, hnd⟩ := hW
  have hA : DataW.TrodAll enc Try.prog W 0 (fun _ => true) true Try.f14.params.toList args.toList ds p := hA0
  obtain ⟨rfl, rfl⟩ := trodVars_none hV
  have hv0 : Rows.groupTellsSpec.plain.varTypes Try.prog = [] := by kernel_rfl
  rw [hv0, List.append_nil, List.append_nil, Try.params14] at hsz
  rw [Try.params14] at hA hval
  have hA1 : DataW.TrodAll enc Try.prog W 0 (fun _ => true) true [23, 23, 3, 3] args.toList ds p := hA
  clear hA0 hval0 hsz0
  refine (Go.Vi.law_walk (enc := enc) Go.Fn.types rd (ts := [23, 23, 3, 3]) (τs := τs) (g := fun n x => Go.Fn.law24_GroupTells.g n x) (by kernel_rfl)
    Go.Fn.law24_GroupTells.soundN Go.Fn.pureGroupTells hA1 (fun j t v h1 h2 => hval j t v (by simpa using h1) h2) hsz).mono fun e W' ⟨he, bel⟩ => ?_
  subst he
  have back := Go.Vi.args_back laidOut bel (by kernel_rfl) hA1
  obtain ⟨v0, vs0, d0, ds0, p0, q0, hargs0, rfl, rfl, h0, r0⟩ := trodAll_cons hA
  obtain ⟨v1, vs1, d1, ds1, p1, q1, hargs1, rfl, rfl, h1, r1⟩ := trodAll_cons r0
  obtain ⟨v2, vs2, d2, ds2, p2, q2, hargs2, rfl, rfl, h2, r2⟩ := trodAll_cons r1
  obtain ⟨v3, vs3, d3, ds3, p3, q3, hargs3, rfl, rfl, h3, r3⟩ := trodAll_cons r2
  obtain ⟨_, rfl, rfl⟩ := trodAll_nil r3
  exact ⟨_, rfl, _, _, _, [], _, [], hW', trodAll_mk1 (shut_bool Try.underlying4 _), back, rfl, bel.frame _, fun h => by cases h⟩
theorem over : Rows.groupTellsRow.holds Try.pinned (OpenSpec.ofChange Rows.groupTellsSpec) :=
  OpenClaim.holds_of_wide 14 Try.f14 rfl rfl rfl rfl rfl rfl rfl ⟨rfl, rfl, rfl, rfl, rfl⟩ rfl rfl rfl rfl rfl (by kernel_rfl) Try.func14 (by kernel_rfl)
    (of_decide_eq_true (by kernel_rfl)) (by unfold Func.isWrapper; first | (rw [if_pos (by decide +kernel)]; kernel_rfl) | (rw [if_neg (by decide +kernel)]; exact ⟨rfl, rfl⟩))
    (fun os started H enc _ => lifted os started H enc)
theorem proved : Rows.GroupTellsSaid := over
end Go.Proofs.Ytagpigbfbhdoiaa.groupTells
namespace Go.Proofs.Ytagpigbfbhdoiaa
/-- The row, under a short name, for the claim. -/
theorem groupTells_holds : Rows.GroupTellsSaid := groupTells.proved
end Go.Proofs.Ytagpigbfbhdoiaa
