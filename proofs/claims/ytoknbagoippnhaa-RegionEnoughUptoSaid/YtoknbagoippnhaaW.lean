/- That the functions compute what their native texts say: written by the session's program gen.py out of the translation. -/
import Derived.Test.YtoknbagoippnhaaViZ
import Derived.Test.YtoknbagoippnhaaN
import Derived.Test.YtoknbagoippnhaaProg
set_option linter.unusedVariables false
set_option maxRecDepth 100000
namespace Go.Fn
open Go Go.Vi Go.Proofs.Try

def tab : List (Nat × TE) := [(3, ⟨(.int .i64), 0, 0⟩), (4, ⟨.bool, 0, 0⟩), (22, ⟨(.slc TRule), 0, 792⟩), (25, ⟨(.int .u64), 0, 0⟩), (27, ⟨TWide, 2, 0⟩), (29, ⟨THeader, 0, 0⟩), (30, ⟨(.int .i64), 0, 0⟩), (34, ⟨(.int .u16), 0, 0⟩), (39, ⟨(.slc TGroup), 0, 40⟩), (41, ⟨TFlat, 2, 0⟩), (43, ⟨TTern, 2, 0⟩), (45, ⟨TCube, 0, 0⟩), (54, ⟨(.slc TCube), 0, 768⟩), (66, ⟨(.slc (.arr 2 (.int .i64))), 0, 16⟩), (67, ⟨(.arr 2 (.int .i64)), 0, 0⟩), (71, ⟨(.slc TAtom), 0, 792⟩), (73, ⟨TRule, 2, 0⟩), (85, ⟨TBoth, 2, 0⟩), (96, ⟨TCube, 0, 0⟩), (98, ⟨TAtom, 4, 0⟩), (101, ⟨TPurse, 2, 0⟩), (103, ⟨TLook, 1, 0⟩), (131, ⟨(.slc (.int .i64)), 0, 8⟩), (137, ⟨(.int .u64), 0, 0⟩), (138, ⟨(.arr 2 (.int .u64)), 0, 0⟩), (155, ⟨(.slc TBucket), 0, 48⟩), (157, ⟨TGroup, 3, 0⟩), (159, ⟨(.slc TAction), 0, 88⟩), (161, ⟨TBucket, 4, 0⟩), (163, ⟨TOxm, 4, 0⟩), (165, ⟨TAction, 6, 0⟩)]
def fts : List Nat := [63, 94]
def pts : List Nat := [99]
theorem tabOk_ : tabOk prog tab = true := by kernel_rfl
theorem types : Types prog tab := Types.of tabOk_
theorem ftsOk_ : ftsOk prog fts = true := by kernel_rfl
theorem ptsOk_ : ptsOk prog pts = true := by kernel_rfl
theorem mixed : prog.follows .mixedOrders = true := by kernel_rfl

def slices_IndexFunc_Rule.rs : List RTy := [.data (.int .i64)]
def slices_IndexFunc_Rule.ps : List PTy := [.data (.slc TRule), .fnp [TRule] [.bool]]
noncomputable def slices_IndexFunc_Rule.e (n : Nat) : Ent := ⟨slices_IndexFunc_Rule.ps, slices_IndexFunc_Rule.rs, fun x => slices_IndexFunc_Rule n x.1 x.2⟩
noncomputable def slices_IndexFunc_Rule.C (n : Nat) : Ctx := { tab := tab, fts := fts, pts := pts, Γ := lookO [], Γc := lookO [], Γs := lookO [], Γm := lookO [], ntmps := f59.ntmps, keep := Vi.look ([], []) [(2, ([0, 1, 7, 8], []))], pins := [] }
theorem slices_IndexFunc_Rule.ok (n : Nat) : CtxOk prog (slices_IndexFunc_Rule.C n) := ⟨types, ftsOk_, ptsOk_, fns_nil, cls_nil, sqs_nil, ems_nil, mixed⟩
noncomputable def slices_IndexFunc_Rule.code : Code := bodyOf f59
theorem slices_IndexFunc_Rule.l0.step (n : Nat) (m0 : Nat) (s_1 : (List Rule)) (f_1 : (Rule → Option Bool)) (v7 : Int) (v8 : Int) : it (EmR.no _) (slices_IndexFunc_Rule.C n) n (Code.go slices_IndexFunc_Rule.code [1, 0, 1, 0, 0]) (blockK 0 (seqK (EmR.no _) (slices_IndexFunc_Rule.C n) n (Code.go slices_IndexFunc_Rule.code [1, 1]) (bodyK (slices_IndexFunc_Rule.C n) f59 slices_IndexFunc_Rule.rs))) (m0 + 1) ⟨[(0, .dat (.slc TRule) s_1), (1, .fn [TRule] [.bool] f_1), (7, .dat (.int .i64) v7), (8, .dat (.int .i64) v8)], []⟩ = slices_IndexFunc_Rule.s0 n (fun (v8' : Int) => it (EmR.no _) (slices_IndexFunc_Rule.C n) n (Code.go slices_IndexFunc_Rule.code [1, 0, 1, 0, 0]) (blockK 0 (seqK (EmR.no _) (slices_IndexFunc_Rule.C n) n (Code.go slices_IndexFunc_Rule.code [1, 1]) (bodyK (slices_IndexFunc_Rule.C n) f59 slices_IndexFunc_Rule.rs))) m0 ⟨[(0, .dat (.slc TRule) s_1), (1, .fn [TRule] [.bool] f_1), (7, .dat (.int .i64) v7), (8, .dat (.int .i64) (v8'))], []⟩) s_1 f_1 v7 v8 := by kernel_rfl
theorem slices_IndexFunc_Rule.l0.eq (n : Nat) (s_1 : (List Rule)) (f_1 : (Rule → Option Bool)) (v7 : Int) : ∀ (m0 : Nat) (v8 : Int), it (EmR.no _) (slices_IndexFunc_Rule.C n) n (Code.go slices_IndexFunc_Rule.code [1, 0, 1, 0, 0]) (blockK 0 (seqK (EmR.no _) (slices_IndexFunc_Rule.C n) n (Code.go slices_IndexFunc_Rule.code [1, 1]) (bodyK (slices_IndexFunc_Rule.C n) f59 slices_IndexFunc_Rule.rs))) m0 ⟨[(0, .dat (.slc TRule) s_1), (1, .fn [TRule] [.bool] f_1), (7, .dat (.int .i64) v7), (8, .dat (.int .i64) v8)], []⟩ = slices_IndexFunc_Rule.l0 n s_1 f_1 v7 m0 v8
  | 0, _ => rfl
  | m0 + 1, v8 =>
    (slices_IndexFunc_Rule.l0.step n m0 s_1 f_1 v7 v8).trans (congr1 (fun k0 => slices_IndexFunc_Rule.s0 n k0 s_1 f_1 v7 v8) (funext fun v8' => slices_IndexFunc_Rule.l0.eq n s_1 f_1 v7 m0 v8'))
theorem slices_IndexFunc_Rule.run0 (n : Nat) (x : pdens slices_IndexFunc_Rule.ps) : Vi.run (slices_IndexFunc_Rule.C n) n f59 slices_IndexFunc_Rule.ps slices_IndexFunc_Rule.rs x = slices_IndexFunc_Rule.s n (fun (s_1' : (List Rule)) (f_1' : (Rule → Option Bool)) (v7' : Int) (v8' : Int) => it (EmR.no _) (slices_IndexFunc_Rule.C n) n (Code.go slices_IndexFunc_Rule.code [1, 0, 1, 0, 0]) (blockK 0 (seqK (EmR.no _) (slices_IndexFunc_Rule.C n) n (Code.go slices_IndexFunc_Rule.code [1, 1]) (bodyK (slices_IndexFunc_Rule.C n) f59 slices_IndexFunc_Rule.rs))) n ⟨[(0, .dat (.slc TRule) (s_1')), (1, .fn [TRule] [.bool] (f_1')), (7, .dat (.int .i64) (v7')), (8, .dat (.int .i64) (v8'))], []⟩) x.1 x.2 := by kernel_rfl
theorem slices_IndexFunc_Rule.eq (n : Nat) (x : pdens slices_IndexFunc_Rule.ps) : Vi.run (slices_IndexFunc_Rule.C n) n f59 slices_IndexFunc_Rule.ps slices_IndexFunc_Rule.rs x = slices_IndexFunc_Rule n x.1 x.2 :=
  (slices_IndexFunc_Rule.run0 n x).trans (congr1 (fun k0 => slices_IndexFunc_Rule.s n k0 x.1 x.2) (funext fun s_1' => funext fun f_1' => funext fun v7' => funext fun v8' => slices_IndexFunc_Rule.l0.eq n s_1' f_1' v7' n v8'))
theorem slices_IndexFunc_Rule.sound (n : Nat) : SoundE prog 59 (slices_IndexFunc_Rule.e n) :=
  soundE_of_run (C := slices_IndexFunc_Rule.C n) (n := n) (slices_IndexFunc_Rule.ok n) func59 (by kernel_rfl) (by kernel_rfl) (fun x r h => (slices_IndexFunc_Rule.eq n x).trans h)

def slices_ContainsFunc_Rule.rs : List RTy := [.data .bool]
def slices_ContainsFunc_Rule.ps : List PTy := [.data (.slc TRule), .fnp [TRule] [.bool]]
noncomputable def slices_ContainsFunc_Rule.e (n : Nat) : Ent := ⟨slices_ContainsFunc_Rule.ps, slices_ContainsFunc_Rule.rs, fun x => slices_ContainsFunc_Rule n x.1 x.2⟩
noncomputable def slices_ContainsFunc_Rule.C (n : Nat) : Ctx := { tab := tab, fts := fts, pts := pts, Γ := lookO [(59, slices_IndexFunc_Rule.e n)], Γc := lookO [], Γs := lookO [], Γm := lookO [], ntmps := f47.ntmps, keep := Vi.look ([], []) [], pins := [] }
theorem slices_ContainsFunc_Rule.ok (n : Nat) : CtxOk prog (slices_ContainsFunc_Rule.C n) := ⟨types, ftsOk_, ptsOk_, (fns_cons (slices_IndexFunc_Rule.sound n) fns_nil), cls_nil, sqs_nil, ems_nil, mixed⟩
theorem slices_ContainsFunc_Rule.eq (n : Nat) (x : pdens slices_ContainsFunc_Rule.ps) : Vi.run (slices_ContainsFunc_Rule.C n) n f47 slices_ContainsFunc_Rule.ps slices_ContainsFunc_Rule.rs x = slices_ContainsFunc_Rule n x.1 x.2 := by kernel_rfl
theorem slices_ContainsFunc_Rule.sound (n : Nat) : SoundE prog 47 (slices_ContainsFunc_Rule.e n) :=
  soundE_of_run (C := slices_ContainsFunc_Rule.C n) (n := n) (slices_ContainsFunc_Rule.ok n) func47 (by kernel_rfl) (by kernel_rfl) (fun x r h => (slices_ContainsFunc_Rule.eq n x).trans h)

def plain_Atoms.rs : List RTy := [.data .bool]
def plain_Atoms.ps : List PTy := [.data (.slc TAtom)]
noncomputable def plain_Atoms.e (n : Nat) : Ent := ⟨plain_Atoms.ps, plain_Atoms.rs, fun x => some (plain_Atoms x)⟩
noncomputable def plain_Atoms.C (n : Nat) : Ctx := { tab := tab, fts := fts, pts := pts, Γ := lookO [], Γc := lookO [], Γs := lookO [], Γm := lookO [], ntmps := f49.ntmps, keep := Vi.look ([], []) [], pins := [] }
theorem plain_Atoms.ok (n : Nat) : CtxOk prog (plain_Atoms.C n) := ⟨types, ftsOk_, ptsOk_, fns_nil, cls_nil, sqs_nil, ems_nil, mixed⟩
theorem plain_Atoms.eq (n : Nat) (x : pdens plain_Atoms.ps) : Vi.run (plain_Atoms.C n) n f49 plain_Atoms.ps plain_Atoms.rs x = some (plain_Atoms x) := by kernel_rfl
theorem plain_Atoms.sound (n : Nat) : SoundE prog 49 (plain_Atoms.e n) :=
  soundE_of_run (C := plain_Atoms.C n) (n := n) (plain_Atoms.ok n) func49 (by kernel_rfl) (by kernel_rfl) (fun x r h => (plain_Atoms.eq n x).trans h)

def plain_Rules_1_c.rs : List Ty := [.bool]
def plain_Rules_1_c.ps : List Ty := [TRule]
def plain_Rules_1_c.caps : List PTy := []
noncomputable def plain_Rules_1_c.e (n : Nat) : Cl := ⟨plain_Rules_1_c.ps, plain_Rules_1_c.caps, plain_Rules_1_c.rs, fun x c => some (plain_Rules_1_c x)⟩
noncomputable def plain_Rules_1_c.C (n : Nat) : Ctx := { tab := tab, fts := fts, pts := pts, Γ := lookO [(49, plain_Atoms.e n)], Γc := lookO [], Γs := lookO [], Γm := lookO [], ntmps := f48.ntmps, keep := Vi.look ([], []) [], pins := [] }
theorem plain_Rules_1_c.ok (n : Nat) : CtxOk prog (plain_Rules_1_c.C n) := ⟨types, ftsOk_, ptsOk_, (fns_cons (plain_Atoms.sound n) fns_nil), cls_nil, sqs_nil, ems_nil, mixed⟩
theorem plain_Rules_1_c.eq (n : Nat) (x : dens plain_Rules_1_c.ps) (c : pdens plain_Rules_1_c.caps) : Vi.runC (plain_Rules_1_c.C n) n f48 plain_Rules_1_c.ps plain_Rules_1_c.caps plain_Rules_1_c.rs x c = some (plain_Rules_1_c x) := by kernel_rfl
theorem plain_Rules_1_c.sound (n : Nat) : SoundC prog 48 (plain_Rules_1_c.e n) :=
  soundC_of_run (C := plain_Rules_1_c.C n) (n := n) (plain_Rules_1_c.ok n) func48 (by kernel_rfl) (by kernel_rfl) (fun x c r h => (plain_Rules_1_c.eq n x c).trans h)

def plain_Rules.rs : List RTy := [.data .bool]
def plain_Rules.ps : List PTy := [.data (.slc TRule), .data (.int .i64)]
noncomputable def plain_Rules.e (n : Nat) : Ent := ⟨plain_Rules.ps, plain_Rules.rs, fun x => plain_Rules n x.1 x.2⟩
noncomputable def plain_Rules.C (n : Nat) : Ctx := { tab := tab, fts := fts, pts := pts, Γ := lookO [(47, slices_ContainsFunc_Rule.e n)], Γc := lookO [(48, plain_Rules_1_c.e n)], Γs := lookO [], Γm := lookO [], ntmps := f17.ntmps, keep := Vi.look ([], []) [], pins := [] }
theorem plain_Rules.ok (n : Nat) : CtxOk prog (plain_Rules.C n) := ⟨types, ftsOk_, ptsOk_, (fns_cons (slices_ContainsFunc_Rule.sound n) fns_nil), (cls_cons (plain_Rules_1_c.sound n) cls_nil), sqs_nil, ems_nil, mixed⟩
theorem plain_Rules.eq (n : Nat) (x : pdens plain_Rules.ps) : Vi.run (plain_Rules.C n) n f17 plain_Rules.ps plain_Rules.rs x = plain_Rules n x.1 x.2 := by kernel_rfl
theorem plain_Rules.sound (n : Nat) : SoundE prog 17 (plain_Rules.e n) :=
  soundE_of_run (C := plain_Rules.C n) (n := n) (plain_Rules.ok n) func17 (by kernel_rfl) (by kernel_rfl) (fun x r h => (plain_Rules.eq n x).trans h)

def ref34_Cubes.rs : List RTy := [.fresh TCube]
def ref34_Cubes.ps : List PTy := [.data (.slc TRule)]
noncomputable def ref34_Cubes.e (n : Nat) : Ent := ⟨ref34_Cubes.ps, ref34_Cubes.rs, fun x => ref34_Cubes n x⟩
noncomputable def ref34_Cubes.C (n : Nat) : Ctx := { tab := tab, fts := fts, pts := pts, Γ := lookO [], Γc := lookO [], Γs := lookO [], Γm := lookO [], ntmps := f43.ntmps, keep := Vi.look ([], []) [(3, ([0, 3, 4], []))], pins := [] }
theorem ref34_Cubes.ok (n : Nat) : CtxOk prog (ref34_Cubes.C n) := ⟨types, ftsOk_, ptsOk_, fns_nil, cls_nil, sqs_nil, ems_nil, mixed⟩
noncomputable def ref34_Cubes.code : Code := bodyOf f43
theorem ref34_Cubes.l0.step (n : Nat) (m0 : Nat) (l_1 : (List Rule)) (out : (List Cube)) (i : Int) : it (EmR.no _) (ref34_Cubes.C n) n (Code.go ref34_Cubes.code [1, 1, 0, 1, 0, 0]) (blockK 0 (seqK (EmR.no _) (ref34_Cubes.C n) n (Code.go ref34_Cubes.code [1, 1, 1]) (bodyK (ref34_Cubes.C n) f43 ref34_Cubes.rs))) (m0 + 1) ⟨[(0, .dat (.slc TRule) l_1), (3, .lst (.tip 100003 0) TCube out), (4, .dat (.int .i64) i)], [(100003, .tok 0)]⟩ = ref34_Cubes.s0 n (fun (out' : (List Cube)) (i' : Int) => it (EmR.no _) (ref34_Cubes.C n) n (Code.go ref34_Cubes.code [1, 1, 0, 1, 0, 0]) (blockK 0 (seqK (EmR.no _) (ref34_Cubes.C n) n (Code.go ref34_Cubes.code [1, 1, 1]) (bodyK (ref34_Cubes.C n) f43 ref34_Cubes.rs))) m0 ⟨[(0, .dat (.slc TRule) l_1), (3, .lst (.tip 100003 0) TCube (out')), (4, .dat (.int .i64) (i'))], [(100003, .tok 0)]⟩) l_1 out i := by kernel_rfl
theorem ref34_Cubes.l0.eq (n : Nat) (l_1 : (List Rule)) : ∀ (m0 : Nat) (out : (List Cube)) (i : Int), it (EmR.no _) (ref34_Cubes.C n) n (Code.go ref34_Cubes.code [1, 1, 0, 1, 0, 0]) (blockK 0 (seqK (EmR.no _) (ref34_Cubes.C n) n (Code.go ref34_Cubes.code [1, 1, 1]) (bodyK (ref34_Cubes.C n) f43 ref34_Cubes.rs))) m0 ⟨[(0, .dat (.slc TRule) l_1), (3, .lst (.tip 100003 0) TCube out), (4, .dat (.int .i64) i)], [(100003, .tok 0)]⟩ = ref34_Cubes.l0 n l_1 m0 out i
  | 0, _, _ => rfl
  | m0 + 1, out, i =>
    (ref34_Cubes.l0.step n m0 l_1 out i).trans (congr1 (fun k0 => ref34_Cubes.s0 n k0 l_1 out i) (funext fun out' => funext fun i' => ref34_Cubes.l0.eq n l_1 m0 out' i'))
theorem ref34_Cubes.run0 (n : Nat) (x : pdens ref34_Cubes.ps) : Vi.run (ref34_Cubes.C n) n f43 ref34_Cubes.ps ref34_Cubes.rs x = ref34_Cubes.s n (fun (l_1' : (List Rule)) (out' : (List Cube)) (i' : Int) => it (EmR.no _) (ref34_Cubes.C n) n (Code.go ref34_Cubes.code [1, 1, 0, 1, 0, 0]) (blockK 0 (seqK (EmR.no _) (ref34_Cubes.C n) n (Code.go ref34_Cubes.code [1, 1, 1]) (bodyK (ref34_Cubes.C n) f43 ref34_Cubes.rs))) n ⟨[(0, .dat (.slc TRule) (l_1')), (3, .lst (.tip 100003 0) TCube (out')), (4, .dat (.int .i64) (i'))], [(100003, .tok 0)]⟩) x := by kernel_rfl
theorem ref34_Cubes.eq (n : Nat) (x : pdens ref34_Cubes.ps) : Vi.run (ref34_Cubes.C n) n f43 ref34_Cubes.ps ref34_Cubes.rs x = ref34_Cubes n x :=
  (ref34_Cubes.run0 n x).trans (congr1 (fun k0 => ref34_Cubes.s n k0 x) (funext fun l_1' => funext fun out' => funext fun i' => ref34_Cubes.l0.eq n l_1' n out' i'))
theorem ref34_Cubes.sound (n : Nat) : SoundE prog 43 (ref34_Cubes.e n) :=
  soundE_of_run (C := ref34_Cubes.C n) (n := n) (ref34_Cubes.ok n) func43 (by kernel_rfl) (by kernel_rfl) (fun x r h => (ref34_Cubes.eq n x).trans h)

def ref02_And.rs : List RTy := [.data TWide]
def ref02_And.ps : List PTy := [.data TWide, .data TWide]
noncomputable def ref02_And.e (n : Nat) : Ent := ⟨ref02_And.ps, ref02_And.rs, fun x => some (ref02_And x.1 x.2)⟩
noncomputable def ref02_And.C (n : Nat) : Ctx := { tab := tab, fts := fts, pts := pts, Γ := lookO [], Γc := lookO [], Γs := lookO [], Γm := lookO [], ntmps := f90.ntmps, keep := Vi.look ([], []) [], pins := [] }
theorem ref02_And.ok (n : Nat) : CtxOk prog (ref02_And.C n) := ⟨types, ftsOk_, ptsOk_, fns_nil, cls_nil, sqs_nil, ems_nil, mixed⟩
theorem ref02_And.eq (n : Nat) (x : pdens ref02_And.ps) : Vi.run (ref02_And.C n) n f90 ref02_And.ps ref02_And.rs x = some (ref02_And x.1 x.2) := by kernel_rfl
theorem ref02_And.sound (n : Nat) : SoundE prog 90 (ref02_And.e n) :=
  soundE_of_run (C := ref02_And.C n) (n := n) (ref02_And.ok n) func90 (by kernel_rfl) (by kernel_rfl) (fun x r h => (ref02_And.eq n x).trans h)

def ref02_Xor.rs : List RTy := [.data TWide]
def ref02_Xor.ps : List PTy := [.data TWide, .data TWide]
noncomputable def ref02_Xor.e (n : Nat) : Ent := ⟨ref02_Xor.ps, ref02_Xor.rs, fun x => some (ref02_Xor x.1 x.2)⟩
noncomputable def ref02_Xor.C (n : Nat) : Ctx := { tab := tab, fts := fts, pts := pts, Γ := lookO [], Γc := lookO [], Γs := lookO [], Γm := lookO [], ntmps := f92.ntmps, keep := Vi.look ([], []) [], pins := [] }
theorem ref02_Xor.ok (n : Nat) : CtxOk prog (ref02_Xor.C n) := ⟨types, ftsOk_, ptsOk_, fns_nil, cls_nil, sqs_nil, ems_nil, mixed⟩
theorem ref02_Xor.eq (n : Nat) (x : pdens ref02_Xor.ps) : Vi.run (ref02_Xor.C n) n f92 ref02_Xor.ps ref02_Xor.rs x = some (ref02_Xor x.1 x.2) := by kernel_rfl
theorem ref02_Xor.sound (n : Nat) : SoundE prog 92 (ref02_Xor.e n) :=
  soundE_of_run (C := ref02_Xor.C n) (n := n) (ref02_Xor.ok n) func92 (by kernel_rfl) (by kernel_rfl) (fun x r h => (ref02_Xor.eq n x).trans h)

def ref02_Zero.rs : List RTy := [.data .bool]
def ref02_Zero.ps : List PTy := [.data TWide]
noncomputable def ref02_Zero.e (n : Nat) : Ent := ⟨ref02_Zero.ps, ref02_Zero.rs, fun x => some (ref02_Zero x)⟩
noncomputable def ref02_Zero.C (n : Nat) : Ctx := { tab := tab, fts := fts, pts := pts, Γ := lookO [], Γc := lookO [], Γs := lookO [], Γm := lookO [], ntmps := f91.ntmps, keep := Vi.look ([], []) [], pins := [] }
theorem ref02_Zero.ok (n : Nat) : CtxOk prog (ref02_Zero.C n) := ⟨types, ftsOk_, ptsOk_, fns_nil, cls_nil, sqs_nil, ems_nil, mixed⟩
theorem ref02_Zero.run0 (n : Nat) (x : pdens ref02_Zero.ps) : Vi.run (ref02_Zero.C n) n f91 ref02_Zero.ps ref02_Zero.rs x = ref02_Zero.o x := by kernel_rfl
theorem ref02_Zero.eq (n : Nat) (x : pdens ref02_Zero.ps) : Vi.run (ref02_Zero.C n) n f91 ref02_Zero.ps ref02_Zero.rs x = some (ref02_Zero x) := (ref02_Zero.run0 n x).trans (ref02_Zero.o_eq _)
theorem ref02_Zero.sound (n : Nat) : SoundE prog 91 (ref02_Zero.e n) :=
  soundE_of_run (C := ref02_Zero.C n) (n := n) (ref02_Zero.ok n) func91 (by kernel_rfl) (by kernel_rfl) (fun x r h => (ref02_Zero.eq n x).trans h)

def ref05_Clean.rs : List RTy := [.data TTern]
def ref05_Clean.ps : List PTy := [.data TTern]
noncomputable def ref05_Clean.e (n : Nat) : Ent := ⟨ref05_Clean.ps, ref05_Clean.rs, fun x => some (ref05_Clean x)⟩
noncomputable def ref05_Clean.C (n : Nat) : Ctx := { tab := tab, fts := fts, pts := pts, Γ := lookO [(90, ref02_And.e n)], Γc := lookO [], Γs := lookO [], Γm := lookO [], ntmps := f93.ntmps, keep := Vi.look ([], []) [], pins := [] }
theorem ref05_Clean.ok (n : Nat) : CtxOk prog (ref05_Clean.C n) := ⟨types, ftsOk_, ptsOk_, (fns_cons (ref02_And.sound n) fns_nil), cls_nil, sqs_nil, ems_nil, mixed⟩
theorem ref05_Clean.eq (n : Nat) (x : pdens ref05_Clean.ps) : Vi.run (ref05_Clean.C n) n f93 ref05_Clean.ps ref05_Clean.rs x = some (ref05_Clean x) := by kernel_rfl
theorem ref05_Clean.sound (n : Nat) : SoundE prog 93 (ref05_Clean.e n) :=
  soundE_of_run (C := ref05_Clean.C n) (n := n) (ref05_Clean.ok n) func93 (by kernel_rfl) (by kernel_rfl) (fun x r h => (ref05_Clean.eq n x).trans h)

def ref02_Or.rs : List RTy := [.data TWide]
def ref02_Or.ps : List PTy := [.data TWide, .data TWide]
noncomputable def ref02_Or.e (n : Nat) : Ent := ⟨ref02_Or.ps, ref02_Or.rs, fun x => some (ref02_Or x.1 x.2)⟩
noncomputable def ref02_Or.C (n : Nat) : Ctx := { tab := tab, fts := fts, pts := pts, Γ := lookO [], Γc := lookO [], Γs := lookO [], Γm := lookO [], ntmps := f94.ntmps, keep := Vi.look ([], []) [], pins := [] }
theorem ref02_Or.ok (n : Nat) : CtxOk prog (ref02_Or.C n) := ⟨types, ftsOk_, ptsOk_, fns_nil, cls_nil, sqs_nil, ems_nil, mixed⟩
theorem ref02_Or.eq (n : Nat) (x : pdens ref02_Or.ps) : Vi.run (ref02_Or.C n) n f94 ref02_Or.ps ref02_Or.rs x = some (ref02_Or x.1 x.2) := by kernel_rfl
theorem ref02_Or.sound (n : Nat) : SoundE prog 94 (ref02_Or.e n) :=
  soundE_of_run (C := ref02_Or.C n) (n := n) (ref02_Or.ok n) func94 (by kernel_rfl) (by kernel_rfl) (fun x r h => (ref02_Or.eq n x).trans h)

def ref05_Meet.rs : List RTy := [.data TTern, .data .bool]
def ref05_Meet.ps : List PTy := [.data TTern, .data TTern]
noncomputable def ref05_Meet.e (n : Nat) : Ent := ⟨ref05_Meet.ps, ref05_Meet.rs, fun x => some (ref05_Meet x.1 x.2)⟩
noncomputable def ref05_Meet.C (n : Nat) : Ctx := { tab := tab, fts := fts, pts := pts, Γ := lookO [(90, ref02_And.e n), (91, ref02_Zero.e n), (92, ref02_Xor.e n), (93, ref05_Clean.e n), (94, ref02_Or.e n)], Γc := lookO [], Γs := lookO [], Γm := lookO [], ntmps := f74.ntmps, keep := Vi.look ([], []) [], pins := [] }
theorem ref05_Meet.ok (n : Nat) : CtxOk prog (ref05_Meet.C n) := ⟨types, ftsOk_, ptsOk_, (fns_cons (ref02_And.sound n) (fns_cons (ref02_Zero.sound n) (fns_cons (ref02_Xor.sound n) (fns_cons (ref05_Clean.sound n) (fns_cons (ref02_Or.sound n) fns_nil))))), cls_nil, sqs_nil, ems_nil, mixed⟩
theorem ref05_Meet.run0 (n : Nat) (x : pdens ref05_Meet.ps) : Vi.run (ref05_Meet.C n) n f74 ref05_Meet.ps ref05_Meet.rs x = ref05_Meet.o x.1 x.2 := by kernel_rfl
theorem ref05_Meet.eq (n : Nat) (x : pdens ref05_Meet.ps) : Vi.run (ref05_Meet.C n) n f74 ref05_Meet.ps ref05_Meet.rs x = some (ref05_Meet x.1 x.2) := (ref05_Meet.run0 n x).trans (ref05_Meet.o_eq _ _)
theorem ref05_Meet.sound (n : Nat) : SoundE prog 74 (ref05_Meet.e n) :=
  soundE_of_run (C := ref05_Meet.C n) (n := n) (ref05_Meet.ok n) func74 (by kernel_rfl) (by kernel_rfl) (fun x r h => (ref05_Meet.eq n x).trans h)

def ref06_Meet.rs : List RTy := [.data TCube, .data .bool]
def ref06_Meet.ps : List PTy := [.data TCube, .data TCube]
noncomputable def ref06_Meet.e (n : Nat) : Ent := ⟨ref06_Meet.ps, ref06_Meet.rs, fun x => ref06_Meet n x.1 x.2⟩
noncomputable def ref06_Meet.C (n : Nat) : Ctx := { tab := tab, fts := fts, pts := pts, Γ := lookO [(74, ref05_Meet.e n)], Γc := lookO [], Γs := lookO [], Γm := lookO [], ntmps := f55.ntmps, keep := Vi.look ([], []) [(3, ([2, 3, 4, 6, 7], [2, 3, 4, 6]))], pins := [] }
theorem ref06_Meet.ok (n : Nat) : CtxOk prog (ref06_Meet.C n) := ⟨types, ftsOk_, ptsOk_, (fns_cons (ref05_Meet.sound n) fns_nil), cls_nil, sqs_nil, ems_nil, mixed⟩
noncomputable def ref06_Meet.code : Code := bodyOf f55
theorem ref06_Meet.l0.step (n : Nat) (m0 : Nat) (f : Int) (a_1 : Cube) (b_1 : Cube) (v4 : Cube) (c : Cube) : it (EmR.no _) (ref06_Meet.C n) n (Code.go ref06_Meet.code [1, 1, 0, 1, 0, 0]) (blockK 0 (seqK (EmR.no _) (ref06_Meet.C n) n (Code.go ref06_Meet.code [1, 1, 1]) (bodyK (ref06_Meet.C n) f55 ref06_Meet.rs))) (m0 + 1) ⟨[(2, .ptr 2 0 TCube []), (3, .ptr 3 0 TCube []), (4, .ptr 4 0 TCube []), (6, .ptr 6 0 TCube []), (7, .dat (.int .i64) f)], [(2, .box 0 false (.dat TCube a_1)), (3, .box 0 false (.dat TCube b_1)), (4, .box 0 false (.dat TCube v4)), (6, .box 0 false (.dat TCube c))]⟩ = ref06_Meet.s0 n (fun (f' : Int) (c' : Cube) => it (EmR.no _) (ref06_Meet.C n) n (Code.go ref06_Meet.code [1, 1, 0, 1, 0, 0]) (blockK 0 (seqK (EmR.no _) (ref06_Meet.C n) n (Code.go ref06_Meet.code [1, 1, 1]) (bodyK (ref06_Meet.C n) f55 ref06_Meet.rs))) m0 ⟨[(2, .ptr 2 0 TCube []), (3, .ptr 3 0 TCube []), (4, .ptr 4 0 TCube []), (6, .ptr 6 0 TCube []), (7, .dat (.int .i64) (f'))], [(2, .box 0 false (.dat TCube a_1)), (3, .box 0 false (.dat TCube b_1)), (4, .box 0 false (.dat TCube v4)), (6, .box 0 false (.dat TCube (c')))]⟩) f a_1 b_1 v4 c := by kernel_rfl
theorem ref06_Meet.l0.eq (n : Nat) (a_1 : Cube) (b_1 : Cube) (v4 : Cube) : ∀ (m0 : Nat) (f : Int) (c : Cube), it (EmR.no _) (ref06_Meet.C n) n (Code.go ref06_Meet.code [1, 1, 0, 1, 0, 0]) (blockK 0 (seqK (EmR.no _) (ref06_Meet.C n) n (Code.go ref06_Meet.code [1, 1, 1]) (bodyK (ref06_Meet.C n) f55 ref06_Meet.rs))) m0 ⟨[(2, .ptr 2 0 TCube []), (3, .ptr 3 0 TCube []), (4, .ptr 4 0 TCube []), (6, .ptr 6 0 TCube []), (7, .dat (.int .i64) f)], [(2, .box 0 false (.dat TCube a_1)), (3, .box 0 false (.dat TCube b_1)), (4, .box 0 false (.dat TCube v4)), (6, .box 0 false (.dat TCube c))]⟩ = ref06_Meet.l0 n a_1 b_1 v4 m0 f c
  | 0, _, _ => rfl
  | m0 + 1, f, c =>
    (ref06_Meet.l0.step n m0 f a_1 b_1 v4 c).trans (congr1 (fun k0 => ref06_Meet.s0 n k0 f a_1 b_1 v4 c) (funext fun f' => funext fun c' => ref06_Meet.l0.eq n a_1 b_1 v4 m0 f' c'))
theorem ref06_Meet.run0 (n : Nat) (x : pdens ref06_Meet.ps) : Vi.run (ref06_Meet.C n) n f55 ref06_Meet.ps ref06_Meet.rs x = ref06_Meet.s n (fun (f' : Int) (a_1' : Cube) (b_1' : Cube) (v4' : Cube) (c' : Cube) => it (EmR.no _) (ref06_Meet.C n) n (Code.go ref06_Meet.code [1, 1, 0, 1, 0, 0]) (blockK 0 (seqK (EmR.no _) (ref06_Meet.C n) n (Code.go ref06_Meet.code [1, 1, 1]) (bodyK (ref06_Meet.C n) f55 ref06_Meet.rs))) n ⟨[(2, .ptr 2 0 TCube []), (3, .ptr 3 0 TCube []), (4, .ptr 4 0 TCube []), (6, .ptr 6 0 TCube []), (7, .dat (.int .i64) (f'))], [(2, .box 0 false (.dat TCube (a_1'))), (3, .box 0 false (.dat TCube (b_1'))), (4, .box 0 false (.dat TCube (v4'))), (6, .box 0 false (.dat TCube (c')))]⟩) x.1 x.2 := by kernel_rfl
theorem ref06_Meet.eq (n : Nat) (x : pdens ref06_Meet.ps) : Vi.run (ref06_Meet.C n) n f55 ref06_Meet.ps ref06_Meet.rs x = ref06_Meet n x.1 x.2 :=
  (ref06_Meet.run0 n x).trans (congr1 (fun k0 => ref06_Meet.s n k0 x.1 x.2) (funext fun f' => funext fun a_1' => funext fun b_1' => funext fun v4' => funext fun c' => ref06_Meet.l0.eq n a_1' b_1' v4' n f' c'))
theorem ref06_Meet.sound (n : Nat) : SoundE prog 55 (ref06_Meet.e n) :=
  soundE_of_run (C := ref06_Meet.C n) (n := n) (ref06_Meet.ok n) func55 (by kernel_rfl) (by kernel_rfl) (fun x r h => (ref06_Meet.eq n x).trans h)

def ref08_Meets.rs : List RTy := [.fresh TCube]
def ref08_Meets.ps : List PTy := [.data TCube, .data (.slc TCube)]
noncomputable def ref08_Meets.e (n : Nat) : Ent := ⟨ref08_Meets.ps, ref08_Meets.rs, fun x => ref08_Meets n x.1 x.2⟩
noncomputable def ref08_Meets.C (n : Nat) : Ctx := { tab := tab, fts := fts, pts := pts, Γ := lookO [(55, ref06_Meet.e n)], Γc := lookO [], Γs := lookO [], Γm := lookO [], ntmps := f57.ntmps, keep := Vi.look ([], []) [(3, ([1, 2, 5, 6], [2]))], pins := [] }
theorem ref08_Meets.ok (n : Nat) : CtxOk prog (ref08_Meets.C n) := ⟨types, ftsOk_, ptsOk_, (fns_cons (ref06_Meet.sound n) fns_nil), cls_nil, sqs_nil, ems_nil, mixed⟩
noncomputable def ref08_Meets.code : Code := bodyOf f57
theorem ref08_Meets.l0.step (n : Nat) (m0 : Nat) (l_1 : (List Cube)) (out : (List Cube)) (i : Int) (c_1 : Cube) : it (EmR.no _) (ref08_Meets.C n) n (Code.go ref08_Meets.code [1, 1, 0, 1, 0, 0]) (blockK 0 (seqK (EmR.no _) (ref08_Meets.C n) n (Code.go ref08_Meets.code [1, 1, 1]) (bodyK (ref08_Meets.C n) f57 ref08_Meets.rs))) (m0 + 1) ⟨[(1, .dat (.slc TCube) l_1), (2, .ptr 2 0 TCube []), (5, .lst (.tip 100005 0) TCube out), (6, .dat (.int .i64) i)], [(100005, .tok 0), (2, .box 0 false (.dat TCube c_1))]⟩ = ref08_Meets.s0 n (fun (out' : (List Cube)) (i' : Int) => it (EmR.no _) (ref08_Meets.C n) n (Code.go ref08_Meets.code [1, 1, 0, 1, 0, 0]) (blockK 0 (seqK (EmR.no _) (ref08_Meets.C n) n (Code.go ref08_Meets.code [1, 1, 1]) (bodyK (ref08_Meets.C n) f57 ref08_Meets.rs))) m0 ⟨[(1, .dat (.slc TCube) l_1), (2, .ptr 2 0 TCube []), (5, .lst (.tip 100005 0) TCube (out')), (6, .dat (.int .i64) (i'))], [(100005, .tok 0), (2, .box 0 false (.dat TCube c_1))]⟩) l_1 out i c_1 := by kernel_rfl
theorem ref08_Meets.l0.eq (n : Nat) (l_1 : (List Cube)) (c_1 : Cube) : ∀ (m0 : Nat) (out : (List Cube)) (i : Int), it (EmR.no _) (ref08_Meets.C n) n (Code.go ref08_Meets.code [1, 1, 0, 1, 0, 0]) (blockK 0 (seqK (EmR.no _) (ref08_Meets.C n) n (Code.go ref08_Meets.code [1, 1, 1]) (bodyK (ref08_Meets.C n) f57 ref08_Meets.rs))) m0 ⟨[(1, .dat (.slc TCube) l_1), (2, .ptr 2 0 TCube []), (5, .lst (.tip 100005 0) TCube out), (6, .dat (.int .i64) i)], [(100005, .tok 0), (2, .box 0 false (.dat TCube c_1))]⟩ = ref08_Meets.l0 n l_1 c_1 m0 out i
  | 0, _, _ => rfl
  | m0 + 1, out, i =>
    (ref08_Meets.l0.step n m0 l_1 out i c_1).trans (congr1 (fun k0 => ref08_Meets.s0 n k0 l_1 out i c_1) (funext fun out' => funext fun i' => ref08_Meets.l0.eq n l_1 c_1 m0 out' i'))
theorem ref08_Meets.run0 (n : Nat) (x : pdens ref08_Meets.ps) : Vi.run (ref08_Meets.C n) n f57 ref08_Meets.ps ref08_Meets.rs x = ref08_Meets.s n (fun (l_1' : (List Cube)) (out' : (List Cube)) (i' : Int) (c_1' : Cube) => it (EmR.no _) (ref08_Meets.C n) n (Code.go ref08_Meets.code [1, 1, 0, 1, 0, 0]) (blockK 0 (seqK (EmR.no _) (ref08_Meets.C n) n (Code.go ref08_Meets.code [1, 1, 1]) (bodyK (ref08_Meets.C n) f57 ref08_Meets.rs))) n ⟨[(1, .dat (.slc TCube) (l_1')), (2, .ptr 2 0 TCube []), (5, .lst (.tip 100005 0) TCube (out')), (6, .dat (.int .i64) (i'))], [(100005, .tok 0), (2, .box 0 false (.dat TCube (c_1')))]⟩) x.1 x.2 := by kernel_rfl
theorem ref08_Meets.eq (n : Nat) (x : pdens ref08_Meets.ps) : Vi.run (ref08_Meets.C n) n f57 ref08_Meets.ps ref08_Meets.rs x = ref08_Meets n x.1 x.2 :=
  (ref08_Meets.run0 n x).trans (congr1 (fun k0 => ref08_Meets.s n k0 x.1 x.2) (funext fun l_1' => funext fun out' => funext fun i' => funext fun c_1' => ref08_Meets.l0.eq n l_1' c_1' n out' i'))
theorem ref08_Meets.sound (n : Nat) : SoundE prog 57 (ref08_Meets.e n) :=
  soundE_of_run (C := ref08_Meets.C n) (n := n) (ref08_Meets.ok n) func57 (by kernel_rfl) (by kernel_rfl) (fun x r h => (ref08_Meets.eq n x).trans h)

def ref02_Bit.rs : List RTy := [.data TWide]
def ref02_Bit.ps : List PTy := [.data (.int .i64)]
noncomputable def ref02_Bit.e (n : Nat) : Ent := ⟨ref02_Bit.ps, ref02_Bit.rs, fun x => ref02_Bit x⟩
noncomputable def ref02_Bit.C (n : Nat) : Ctx := { tab := tab, fts := fts, pts := pts, Γ := lookO [], Γc := lookO [], Γs := lookO [], Γm := lookO [], ntmps := f108.ntmps, keep := Vi.look ([], []) [], pins := [] }
theorem ref02_Bit.ok (n : Nat) : CtxOk prog (ref02_Bit.C n) := ⟨types, ftsOk_, ptsOk_, fns_nil, cls_nil, sqs_nil, ems_nil, mixed⟩
theorem ref02_Bit.eq (n : Nat) (x : pdens ref02_Bit.ps) : Vi.run (ref02_Bit.C n) n f108 ref02_Bit.ps ref02_Bit.rs x = ref02_Bit x := by kernel_rfl
theorem ref02_Bit.sound (n : Nat) : SoundE prog 108 (ref02_Bit.e n) :=
  soundE_of_run (C := ref02_Bit.C n) (n := n) (ref02_Bit.ok n) func108 (by kernel_rfl) (by kernel_rfl) (fun x r h => (ref02_Bit.eq n x).trans h)

def ref02_Has.rs : List RTy := [.data .bool]
def ref02_Has.ps : List PTy := [.data TWide, .data (.int .i64)]
noncomputable def ref02_Has.e (n : Nat) : Ent := ⟨ref02_Has.ps, ref02_Has.rs, fun x => ref02_Has x.1 x.2⟩
noncomputable def ref02_Has.C (n : Nat) : Ctx := { tab := tab, fts := fts, pts := pts, Γ := lookO [(90, ref02_And.e n), (91, ref02_Zero.e n), (108, ref02_Bit.e n)], Γc := lookO [], Γs := lookO [], Γm := lookO [], ntmps := f95.ntmps, keep := Vi.look ([], []) [], pins := [] }
theorem ref02_Has.ok (n : Nat) : CtxOk prog (ref02_Has.C n) := ⟨types, ftsOk_, ptsOk_, (fns_cons (ref02_And.sound n) (fns_cons (ref02_Zero.sound n) (fns_cons (ref02_Bit.sound n) fns_nil))), cls_nil, sqs_nil, ems_nil, mixed⟩
theorem ref02_Has.eq (n : Nat) (x : pdens ref02_Has.ps) : Vi.run (ref02_Has.C n) n f95 ref02_Has.ps ref02_Has.rs x = ref02_Has x.1 x.2 := by kernel_rfl
theorem ref02_Has.sound (n : Nat) : SoundE prog 95 (ref02_Has.e n) :=
  soundE_of_run (C := ref02_Has.C n) (n := n) (ref02_Has.ok n) func95 (by kernel_rfl) (by kernel_rfl) (fun x r h => (ref02_Has.eq n x).trans h)

def ref02_Many.rs : List RTy := [.data (.int .i64)]
def ref02_Many.ps : List PTy := [.data TWide]
noncomputable def ref02_Many.e (n : Nat) : Ent := ⟨ref02_Many.ps, ref02_Many.rs, fun x => ref02_Many n x⟩
noncomputable def ref02_Many.C (n : Nat) : Ctx := { tab := tab, fts := fts, pts := pts, Γ := lookO [(95, ref02_Has.e n)], Γc := lookO [], Γs := lookO [], Γm := lookO [], ntmps := f75.ntmps, keep := Vi.look ([], []) [(3, ([1, 3, 4], [1]))], pins := [] }
theorem ref02_Many.ok (n : Nat) : CtxOk prog (ref02_Many.C n) := ⟨types, ftsOk_, ptsOk_, (fns_cons (ref02_Has.sound n) fns_nil), cls_nil, sqs_nil, ems_nil, mixed⟩
noncomputable def ref02_Many.code : Code := bodyOf f75
theorem ref02_Many.l0.step (n : Nat) (m0 : Nat) (n3 : Int) (i : Int) (a_1 : Wide) : it (EmR.no _) (ref02_Many.C n) n (Code.go ref02_Many.code [1, 1, 0, 1, 0, 0]) (blockK 0 (seqK (EmR.no _) (ref02_Many.C n) n (Code.go ref02_Many.code [1, 1, 1]) (bodyK (ref02_Many.C n) f75 ref02_Many.rs))) (m0 + 1) ⟨[(1, .ptr 1 0 TWide []), (3, .dat (.int .i64) n3), (4, .dat (.int .i64) i)], [(1, .box 0 false (.dat TWide a_1))]⟩ = ref02_Many.s0 n (fun (n3' : Int) (i' : Int) => it (EmR.no _) (ref02_Many.C n) n (Code.go ref02_Many.code [1, 1, 0, 1, 0, 0]) (blockK 0 (seqK (EmR.no _) (ref02_Many.C n) n (Code.go ref02_Many.code [1, 1, 1]) (bodyK (ref02_Many.C n) f75 ref02_Many.rs))) m0 ⟨[(1, .ptr 1 0 TWide []), (3, .dat (.int .i64) (n3')), (4, .dat (.int .i64) (i'))], [(1, .box 0 false (.dat TWide a_1))]⟩) n3 i a_1 := by kernel_rfl
theorem ref02_Many.l0.eq (n : Nat) (a_1 : Wide) : ∀ (m0 : Nat) (n3 : Int) (i : Int), it (EmR.no _) (ref02_Many.C n) n (Code.go ref02_Many.code [1, 1, 0, 1, 0, 0]) (blockK 0 (seqK (EmR.no _) (ref02_Many.C n) n (Code.go ref02_Many.code [1, 1, 1]) (bodyK (ref02_Many.C n) f75 ref02_Many.rs))) m0 ⟨[(1, .ptr 1 0 TWide []), (3, .dat (.int .i64) n3), (4, .dat (.int .i64) i)], [(1, .box 0 false (.dat TWide a_1))]⟩ = ref02_Many.l0 n a_1 m0 n3 i
  | 0, _, _ => rfl
  | m0 + 1, n3, i =>
    (ref02_Many.l0.step n m0 n3 i a_1).trans (congr1 (fun k0 => ref02_Many.s0 n k0 n3 i a_1) (funext fun n3' => funext fun i' => ref02_Many.l0.eq n a_1 m0 n3' i'))
theorem ref02_Many.run0 (n : Nat) (x : pdens ref02_Many.ps) : Vi.run (ref02_Many.C n) n f75 ref02_Many.ps ref02_Many.rs x = ref02_Many.s n (fun (n3' : Int) (i' : Int) (a_1' : Wide) => it (EmR.no _) (ref02_Many.C n) n (Code.go ref02_Many.code [1, 1, 0, 1, 0, 0]) (blockK 0 (seqK (EmR.no _) (ref02_Many.C n) n (Code.go ref02_Many.code [1, 1, 1]) (bodyK (ref02_Many.C n) f75 ref02_Many.rs))) n ⟨[(1, .ptr 1 0 TWide []), (3, .dat (.int .i64) (n3')), (4, .dat (.int .i64) (i'))], [(1, .box 0 false (.dat TWide (a_1')))]⟩) x := by kernel_rfl
theorem ref02_Many.eq (n : Nat) (x : pdens ref02_Many.ps) : Vi.run (ref02_Many.C n) n f75 ref02_Many.ps ref02_Many.rs x = ref02_Many n x :=
  (ref02_Many.run0 n x).trans (congr1 (fun k0 => ref02_Many.s n k0 x) (funext fun n3' => funext fun i' => funext fun a_1' => ref02_Many.l0.eq n a_1' n n3' i'))
theorem ref02_Many.sound (n : Nat) : SoundE prog 75 (ref02_Many.e n) :=
  soundE_of_run (C := ref02_Many.C n) (n := n) (ref02_Many.ok n) func75 (by kernel_rfl) (by kernel_rfl) (fun x r h => (ref02_Many.eq n x).trans h)

def ref06_Size.rs : List RTy := [.data (.int .i64)]
def ref06_Size.ps : List PTy := [.data TCube]
noncomputable def ref06_Size.e (n : Nat) : Ent := ⟨ref06_Size.ps, ref06_Size.rs, fun x => ref06_Size n x⟩
noncomputable def ref06_Size.C (n : Nat) : Ctx := { tab := tab, fts := fts, pts := pts, Γ := lookO [(75, ref02_Many.e n)], Γc := lookO [], Γs := lookO [], Γm := lookO [], ntmps := f58.ntmps, keep := Vi.look ([], []) [(3, ([1, 3, 4], [1]))], pins := [] }
theorem ref06_Size.ok (n : Nat) : CtxOk prog (ref06_Size.C n) := ⟨types, ftsOk_, ptsOk_, (fns_cons (ref02_Many.sound n) fns_nil), cls_nil, sqs_nil, ems_nil, mixed⟩
noncomputable def ref06_Size.code : Code := bodyOf f58
theorem ref06_Size.l0.step (n : Nat) (m0 : Nat) (n3 : Int) (f : Int) (c_1 : Cube) : it (EmR.no _) (ref06_Size.C n) n (Code.go ref06_Size.code [1, 1, 0, 1, 0, 0]) (blockK 0 (seqK (EmR.no _) (ref06_Size.C n) n (Code.go ref06_Size.code [1, 1, 1]) (bodyK (ref06_Size.C n) f58 ref06_Size.rs))) (m0 + 1) ⟨[(1, .ptr 1 0 TCube []), (3, .dat (.int .i64) n3), (4, .dat (.int .i64) f)], [(1, .box 0 false (.dat TCube c_1))]⟩ = ref06_Size.s0 n (fun (n3' : Int) (f' : Int) => it (EmR.no _) (ref06_Size.C n) n (Code.go ref06_Size.code [1, 1, 0, 1, 0, 0]) (blockK 0 (seqK (EmR.no _) (ref06_Size.C n) n (Code.go ref06_Size.code [1, 1, 1]) (bodyK (ref06_Size.C n) f58 ref06_Size.rs))) m0 ⟨[(1, .ptr 1 0 TCube []), (3, .dat (.int .i64) (n3')), (4, .dat (.int .i64) (f'))], [(1, .box 0 false (.dat TCube c_1))]⟩) n3 f c_1 := by kernel_rfl
theorem ref06_Size.l0.eq (n : Nat) (c_1 : Cube) : ∀ (m0 : Nat) (n3 : Int) (f : Int), it (EmR.no _) (ref06_Size.C n) n (Code.go ref06_Size.code [1, 1, 0, 1, 0, 0]) (blockK 0 (seqK (EmR.no _) (ref06_Size.C n) n (Code.go ref06_Size.code [1, 1, 1]) (bodyK (ref06_Size.C n) f58 ref06_Size.rs))) m0 ⟨[(1, .ptr 1 0 TCube []), (3, .dat (.int .i64) n3), (4, .dat (.int .i64) f)], [(1, .box 0 false (.dat TCube c_1))]⟩ = ref06_Size.l0 n c_1 m0 n3 f
  | 0, _, _ => rfl
  | m0 + 1, n3, f =>
    (ref06_Size.l0.step n m0 n3 f c_1).trans (congr1 (fun k0 => ref06_Size.s0 n k0 n3 f c_1) (funext fun n3' => funext fun f' => ref06_Size.l0.eq n c_1 m0 n3' f'))
theorem ref06_Size.run0 (n : Nat) (x : pdens ref06_Size.ps) : Vi.run (ref06_Size.C n) n f58 ref06_Size.ps ref06_Size.rs x = ref06_Size.s n (fun (n3' : Int) (f' : Int) (c_1' : Cube) => it (EmR.no _) (ref06_Size.C n) n (Code.go ref06_Size.code [1, 1, 0, 1, 0, 0]) (blockK 0 (seqK (EmR.no _) (ref06_Size.C n) n (Code.go ref06_Size.code [1, 1, 1]) (bodyK (ref06_Size.C n) f58 ref06_Size.rs))) n ⟨[(1, .ptr 1 0 TCube []), (3, .dat (.int .i64) (n3')), (4, .dat (.int .i64) (f'))], [(1, .box 0 false (.dat TCube (c_1')))]⟩) x := by kernel_rfl
theorem ref06_Size.eq (n : Nat) (x : pdens ref06_Size.ps) : Vi.run (ref06_Size.C n) n f58 ref06_Size.ps ref06_Size.rs x = ref06_Size n x :=
  (ref06_Size.run0 n x).trans (congr1 (fun k0 => ref06_Size.s n k0 x) (funext fun n3' => funext fun f' => funext fun c_1' => ref06_Size.l0.eq n c_1' n n3' f'))
theorem ref06_Size.sound (n : Nat) : SoundE prog 58 (ref06_Size.e n) :=
  soundE_of_run (C := ref06_Size.C n) (n := n) (ref06_Size.ok n) func58 (by kernel_rfl) (by kernel_rfl) (fun x r h => (ref06_Size.eq n x).trans h)

def ref08_Bound.rs : List RTy := [.data (.int .i64)]
def ref08_Bound.ps : List PTy := [.data TCube, .data (.slc TCube)]
noncomputable def ref08_Bound.e (n : Nat) : Ent := ⟨ref08_Bound.ps, ref08_Bound.rs, fun x => ref08_Bound n x.1 x.2⟩
noncomputable def ref08_Bound.C (n : Nat) : Ctx := { tab := tab, fts := fts, pts := pts, Γ := lookO [(57, ref08_Meets.e n), (58, ref06_Size.e n)], Γc := lookO [], Γs := lookO [], Γm := lookO [], ntmps := f26.ntmps, keep := Vi.look ([], []) [(4, ([5, 6, 7], []))], pins := [] }
theorem ref08_Bound.ok (n : Nat) : CtxOk prog (ref08_Bound.C n) := ⟨types, ftsOk_, ptsOk_, (fns_cons (ref08_Meets.sound n) (fns_cons (ref06_Size.sound n) fns_nil)), cls_nil, sqs_nil, ems_nil, mixed⟩
noncomputable def ref08_Bound.code : Code := bodyOf f26
theorem ref08_Bound.l0.step (n : Nat) (m0 : Nat) (m5 : (List Cube)) (n6 : Int) (i : Int) : it (EmR.no _) (ref08_Bound.C n) n (Code.go ref08_Bound.code [1, 1, 1, 0, 1, 0, 0]) (blockK 0 (seqK (EmR.no _) (ref08_Bound.C n) n (Code.go ref08_Bound.code [1, 1, 1, 1]) (bodyK (ref08_Bound.C n) f26 ref08_Bound.rs))) (m0 + 1) ⟨[(5, .lst (.tip 100005 0) TCube m5), (6, .dat (.int .i64) n6), (7, .dat (.int .i64) i)], [(100005, .tok 0)]⟩ = ref08_Bound.s0 n (fun (n6' : Int) (i' : Int) => it (EmR.no _) (ref08_Bound.C n) n (Code.go ref08_Bound.code [1, 1, 1, 0, 1, 0, 0]) (blockK 0 (seqK (EmR.no _) (ref08_Bound.C n) n (Code.go ref08_Bound.code [1, 1, 1, 1]) (bodyK (ref08_Bound.C n) f26 ref08_Bound.rs))) m0 ⟨[(5, .lst (.tip 100005 0) TCube m5), (6, .dat (.int .i64) (n6')), (7, .dat (.int .i64) (i'))], [(100005, .tok 0)]⟩) m5 n6 i := by kernel_rfl
theorem ref08_Bound.l0.eq (n : Nat) (m5 : (List Cube)) : ∀ (m0 : Nat) (n6 : Int) (i : Int), it (EmR.no _) (ref08_Bound.C n) n (Code.go ref08_Bound.code [1, 1, 1, 0, 1, 0, 0]) (blockK 0 (seqK (EmR.no _) (ref08_Bound.C n) n (Code.go ref08_Bound.code [1, 1, 1, 1]) (bodyK (ref08_Bound.C n) f26 ref08_Bound.rs))) m0 ⟨[(5, .lst (.tip 100005 0) TCube m5), (6, .dat (.int .i64) n6), (7, .dat (.int .i64) i)], [(100005, .tok 0)]⟩ = ref08_Bound.l0 n m5 m0 n6 i
  | 0, _, _ => rfl
  | m0 + 1, n6, i =>
    (ref08_Bound.l0.step n m0 m5 n6 i).trans (congr1 (fun k0 => ref08_Bound.s0 n k0 m5 n6 i) (funext fun n6' => funext fun i' => ref08_Bound.l0.eq n m5 m0 n6' i'))
theorem ref08_Bound.run0 (n : Nat) (x : pdens ref08_Bound.ps) : Vi.run (ref08_Bound.C n) n f26 ref08_Bound.ps ref08_Bound.rs x = ref08_Bound.s n (fun (m5' : (List Cube)) (n6' : Int) (i' : Int) => it (EmR.no _) (ref08_Bound.C n) n (Code.go ref08_Bound.code [1, 1, 1, 0, 1, 0, 0]) (blockK 0 (seqK (EmR.no _) (ref08_Bound.C n) n (Code.go ref08_Bound.code [1, 1, 1, 1]) (bodyK (ref08_Bound.C n) f26 ref08_Bound.rs))) n ⟨[(5, .lst (.tip 100005 0) TCube (m5')), (6, .dat (.int .i64) (n6')), (7, .dat (.int .i64) (i'))], [(100005, .tok 0)]⟩) x.1 x.2 := by kernel_rfl
theorem ref08_Bound.eq (n : Nat) (x : pdens ref08_Bound.ps) : Vi.run (ref08_Bound.C n) n f26 ref08_Bound.ps ref08_Bound.rs x = ref08_Bound n x.1 x.2 :=
  (ref08_Bound.run0 n x).trans (congr1 (fun k0 => ref08_Bound.s n k0 x.1 x.2) (funext fun m5' => funext fun n6' => funext fun i' => ref08_Bound.l0.eq n m5' n n6' i'))
theorem ref08_Bound.sound (n : Nat) : SoundE prog 26 (ref08_Bound.e n) :=
  soundE_of_run (C := ref08_Bound.C n) (n := n) (ref08_Bound.ok n) func26 (by kernel_rfl) (by kernel_rfl) (fun x r h => (ref08_Bound.eq n x).trans h)

def ref34_Bound.rs : List RTy := [.data (.int .i64)]
def ref34_Bound.ps : List PTy := [.data (.slc TRule)]
noncomputable def ref34_Bound.e (n : Nat) : Ent := ⟨ref34_Bound.ps, ref34_Bound.rs, fun x => ref34_Bound n x⟩
noncomputable def ref34_Bound.C (n : Nat) : Ctx := { tab := tab, fts := fts, pts := pts, Γ := lookO [(26, ref08_Bound.e n), (43, ref34_Cubes.e n)], Γc := lookO [], Γs := lookO [], Γm := lookO [], ntmps := f40.ntmps, keep := Vi.look ([], []) [(3, ([0, 3, 4], []))], pins := [] }
theorem ref34_Bound.ok (n : Nat) : CtxOk prog (ref34_Bound.C n) := ⟨types, ftsOk_, ptsOk_, (fns_cons (ref08_Bound.sound n) (fns_cons (ref34_Cubes.sound n) fns_nil)), cls_nil, sqs_nil, ems_nil, mixed⟩
noncomputable def ref34_Bound.code : Code := bodyOf f40
theorem ref34_Bound.l0.step (n : Nat) (m0 : Nat) (l_1 : (List Rule)) (n3 : Int) (i : Int) : it (EmR.no _) (ref34_Bound.C n) n (Code.go ref34_Bound.code [1, 1, 0, 1, 0, 0]) (blockK 0 (seqK (EmR.no _) (ref34_Bound.C n) n (Code.go ref34_Bound.code [1, 1, 1]) (bodyK (ref34_Bound.C n) f40 ref34_Bound.rs))) (m0 + 1) ⟨[(0, .dat (.slc TRule) l_1), (3, .dat (.int .i64) n3), (4, .dat (.int .i64) i)], []⟩ = ref34_Bound.s0 n (fun (n3' : Int) (i' : Int) => it (EmR.no _) (ref34_Bound.C n) n (Code.go ref34_Bound.code [1, 1, 0, 1, 0, 0]) (blockK 0 (seqK (EmR.no _) (ref34_Bound.C n) n (Code.go ref34_Bound.code [1, 1, 1]) (bodyK (ref34_Bound.C n) f40 ref34_Bound.rs))) m0 ⟨[(0, .dat (.slc TRule) l_1), (3, .dat (.int .i64) (n3')), (4, .dat (.int .i64) (i'))], []⟩) l_1 n3 i := by kernel_rfl
theorem ref34_Bound.l0.eq (n : Nat) (l_1 : (List Rule)) : ∀ (m0 : Nat) (n3 : Int) (i : Int), it (EmR.no _) (ref34_Bound.C n) n (Code.go ref34_Bound.code [1, 1, 0, 1, 0, 0]) (blockK 0 (seqK (EmR.no _) (ref34_Bound.C n) n (Code.go ref34_Bound.code [1, 1, 1]) (bodyK (ref34_Bound.C n) f40 ref34_Bound.rs))) m0 ⟨[(0, .dat (.slc TRule) l_1), (3, .dat (.int .i64) n3), (4, .dat (.int .i64) i)], []⟩ = ref34_Bound.l0 n l_1 m0 n3 i
  | 0, _, _ => rfl
  | m0 + 1, n3, i =>
    (ref34_Bound.l0.step n m0 l_1 n3 i).trans (congr1 (fun k0 => ref34_Bound.s0 n k0 l_1 n3 i) (funext fun n3' => funext fun i' => ref34_Bound.l0.eq n l_1 m0 n3' i'))
theorem ref34_Bound.run0 (n : Nat) (x : pdens ref34_Bound.ps) : Vi.run (ref34_Bound.C n) n f40 ref34_Bound.ps ref34_Bound.rs x = ref34_Bound.s n (fun (l_1' : (List Rule)) (n3' : Int) (i' : Int) => it (EmR.no _) (ref34_Bound.C n) n (Code.go ref34_Bound.code [1, 1, 0, 1, 0, 0]) (blockK 0 (seqK (EmR.no _) (ref34_Bound.C n) n (Code.go ref34_Bound.code [1, 1, 1]) (bodyK (ref34_Bound.C n) f40 ref34_Bound.rs))) n ⟨[(0, .dat (.slc TRule) (l_1')), (3, .dat (.int .i64) (n3')), (4, .dat (.int .i64) (i'))], []⟩) x := by kernel_rfl
theorem ref34_Bound.eq (n : Nat) (x : pdens ref34_Bound.ps) : Vi.run (ref34_Bound.C n) n f40 ref34_Bound.ps ref34_Bound.rs x = ref34_Bound n x :=
  (ref34_Bound.run0 n x).trans (congr1 (fun k0 => ref34_Bound.s n k0 x) (funext fun l_1' => funext fun n3' => funext fun i' => ref34_Bound.l0.eq n l_1' n n3' i'))
theorem ref34_Bound.sound (n : Nat) : SoundE prog 40 (ref34_Bound.e n) :=
  soundE_of_run (C := ref34_Bound.C n) (n := n) (ref34_Bound.ok n) func40 (by kernel_rfl) (by kernel_rfl) (fun x r h => (ref34_Bound.eq n x).trans h)

def law34_light.rs : List RTy := [.data .bool]
def law34_light.ps : List PTy := [.data (.slc TRule), .data (.int .i64)]
noncomputable def law34_light.e (n : Nat) : Ent := ⟨law34_light.ps, law34_light.rs, fun x => law34_light n x.1 x.2⟩
noncomputable def law34_light.C (n : Nat) : Ctx := { tab := tab, fts := fts, pts := pts, Γ := lookO [(17, plain_Rules.e n), (40, ref34_Bound.e n)], Γc := lookO [], Γs := lookO [], Γm := lookO [], ntmps := f12.ntmps, keep := Vi.look ([], []) [], pins := [] }
theorem law34_light.ok (n : Nat) : CtxOk prog (law34_light.C n) := ⟨types, ftsOk_, ptsOk_, (fns_cons (plain_Rules.sound n) (fns_cons (ref34_Bound.sound n) fns_nil)), cls_nil, sqs_nil, ems_nil, mixed⟩
theorem law34_light.eq (n : Nat) (x : pdens law34_light.ps) : Vi.run (law34_light.C n) n f12 law34_light.ps law34_light.rs x = law34_light n x.1 x.2 := by kernel_rfl
theorem law34_light.sound (n : Nat) : SoundE prog 12 (law34_light.e n) :=
  soundE_of_run (C := law34_light.C n) (n := n) (law34_light.ok n) func12 (by kernel_rfl) (by kernel_rfl) (fun x r h => (law34_light.eq n x).trans h)
def law34_light.g (n : Nat) (x : pdens (law34_light.τs.map PTy.data)) : Option Bool := law34_light n x.1 x.2
theorem law34_light.soundN (n : Nat) : SoundE prog 12 ⟨law34_light.τs.map PTy.data, [.data .bool], law34_light.g n⟩ := law34_light.sound n

def cover_purse_pay.rs : List RTy := [.data .bool]
def cover_purse_pay.τ : Ty := TPurse
def cover_purse_pay.ps : List PTy := []
noncomputable def cover_purse_pay.e (n : Nat) : Em := ⟨cover_purse_pay.τ, cover_purse_pay.ps, cover_purse_pay.rs, fun y x => cover_purse_pay y⟩
noncomputable def cover_purse_pay.C (n : Nat) : Ctx := { tab := tab, fts := fts, pts := pts, Γ := lookO [], Γc := lookO [], Γs := lookO [], Γm := lookO [], ntmps := f79.ntmps, keep := Vi.look ([], []) [], pins := [0] }
theorem cover_purse_pay.ok (n : Nat) : CtxOk prog (cover_purse_pay.C n) := ⟨types, ftsOk_, ptsOk_, fns_nil, cls_nil, sqs_nil, ems_nil, mixed⟩
theorem cover_purse_pay.eq (n : Nat) (y : Ty.den cover_purse_pay.τ) (x : pdens cover_purse_pay.ps) : Vi.runM (cover_purse_pay.C n) n f79 cover_purse_pay.τ cover_purse_pay.ps cover_purse_pay.rs y x = cover_purse_pay y := by kernel_rfl
theorem cover_purse_pay.sound (n : Nat) : SoundM prog 79 (cover_purse_pay.e n) :=
  soundM_of_run (C := cover_purse_pay.C n) (n := n) (cover_purse_pay.ok n) func79 (by kernel_rfl) (by kernel_rfl) (fun y x r h => (cover_purse_pay.eq n y x).trans h)

def wide_And.rs : List RTy := [.data TWide]
def wide_And.ps : List PTy := [.data TWide, .data TWide]
noncomputable def wide_And.e (n : Nat) : Ent := ⟨wide_And.ps, wide_And.rs, fun x => some (wide_And x.1 x.2)⟩
noncomputable def wide_And.C (n : Nat) : Ctx := { tab := tab, fts := fts, pts := pts, Γ := lookO [], Γc := lookO [], Γs := lookO [], Γm := lookO [], ntmps := f87.ntmps, keep := Vi.look ([], []) [], pins := [] }
theorem wide_And.ok (n : Nat) : CtxOk prog (wide_And.C n) := ⟨types, ftsOk_, ptsOk_, fns_nil, cls_nil, sqs_nil, ems_nil, mixed⟩
theorem wide_And.eq (n : Nat) (x : pdens wide_And.ps) : Vi.run (wide_And.C n) n f87 wide_And.ps wide_And.rs x = some (wide_And x.1 x.2) := by kernel_rfl
theorem wide_And.sound (n : Nat) : SoundE prog 87 (wide_And.e n) :=
  soundE_of_run (C := wide_And.C n) (n := n) (wide_And.ok n) func87 (by kernel_rfl) (by kernel_rfl) (fun x r h => (wide_And.eq n x).trans h)

def wide_Xor.rs : List RTy := [.data TWide]
def wide_Xor.ps : List PTy := [.data TWide, .data TWide]
noncomputable def wide_Xor.e (n : Nat) : Ent := ⟨wide_Xor.ps, wide_Xor.rs, fun x => some (wide_Xor x.1 x.2)⟩
noncomputable def wide_Xor.C (n : Nat) : Ctx := { tab := tab, fts := fts, pts := pts, Γ := lookO [], Γc := lookO [], Γs := lookO [], Γm := lookO [], ntmps := f96.ntmps, keep := Vi.look ([], []) [], pins := [] }
theorem wide_Xor.ok (n : Nat) : CtxOk prog (wide_Xor.C n) := ⟨types, ftsOk_, ptsOk_, fns_nil, cls_nil, sqs_nil, ems_nil, mixed⟩
theorem wide_Xor.eq (n : Nat) (x : pdens wide_Xor.ps) : Vi.run (wide_Xor.C n) n f96 wide_Xor.ps wide_Xor.rs x = some (wide_Xor x.1 x.2) := by kernel_rfl
theorem wide_Xor.sound (n : Nat) : SoundE prog 96 (wide_Xor.e n) :=
  soundE_of_run (C := wide_Xor.C n) (n := n) (wide_Xor.ok n) func96 (by kernel_rfl) (by kernel_rfl) (fun x r h => (wide_Xor.eq n x).trans h)

def tern_unlike.rs : List RTy := [.data TWide]
def tern_unlike.ps : List PTy := [.data TWide, .data TWide, .data TWide]
noncomputable def tern_unlike.e (n : Nat) : Ent := ⟨tern_unlike.ps, tern_unlike.rs, fun x => some (tern_unlike x.1 x.2.1 x.2.2)⟩
noncomputable def tern_unlike.C (n : Nat) : Ctx := { tab := tab, fts := fts, pts := pts, Γ := lookO [(87, wide_And.e n), (96, wide_Xor.e n)], Γc := lookO [], Γs := lookO [], Γm := lookO [], ntmps := f78.ntmps, keep := Vi.look ([], []) [], pins := [] }
theorem tern_unlike.ok (n : Nat) : CtxOk prog (tern_unlike.C n) := ⟨types, ftsOk_, ptsOk_, (fns_cons (wide_And.sound n) (fns_cons (wide_Xor.sound n) fns_nil)), cls_nil, sqs_nil, ems_nil, mixed⟩
theorem tern_unlike.eq (n : Nat) (x : pdens tern_unlike.ps) : Vi.run (tern_unlike.C n) n f78 tern_unlike.ps tern_unlike.rs x = some (tern_unlike x.1 x.2.1 x.2.2) := by kernel_rfl
theorem tern_unlike.sound (n : Nat) : SoundE prog 78 (tern_unlike.e n) :=
  soundE_of_run (C := tern_unlike.C n) (n := n) (tern_unlike.ok n) func78 (by kernel_rfl) (by kernel_rfl) (fun x r h => (tern_unlike.eq n x).trans h)

def wide_Zero.rs : List RTy := [.data .bool]
def wide_Zero.ps : List PTy := [.data TWide]
noncomputable def wide_Zero.e (n : Nat) : Ent := ⟨wide_Zero.ps, wide_Zero.rs, fun x => some (wide_Zero x)⟩
noncomputable def wide_Zero.C (n : Nat) : Ctx := { tab := tab, fts := fts, pts := pts, Γ := lookO [], Γc := lookO [], Γs := lookO [], Γm := lookO [], ntmps := f77.ntmps, keep := Vi.look ([], []) [], pins := [] }
theorem wide_Zero.ok (n : Nat) : CtxOk prog (wide_Zero.C n) := ⟨types, ftsOk_, ptsOk_, fns_nil, cls_nil, sqs_nil, ems_nil, mixed⟩
theorem wide_Zero.eq (n : Nat) (x : pdens wide_Zero.ps) : Vi.run (wide_Zero.C n) n f77 wide_Zero.ps wide_Zero.rs x = some (wide_Zero x) := by kernel_rfl
theorem wide_Zero.sound (n : Nat) : SoundE prog 77 (wide_Zero.e n) :=
  soundE_of_run (C := wide_Zero.C n) (n := n) (wide_Zero.ok n) func77 (by kernel_rfl) (by kernel_rfl) (fun x r h => (wide_Zero.eq n x).trans h)

def tern_Has.rs : List RTy := [.data .bool]
def tern_Has.ps : List PTy := [.data TTern, .data TWide]
noncomputable def tern_Has.e (n : Nat) : Ent := ⟨tern_Has.ps, tern_Has.rs, fun x => some (tern_Has x.1 x.2)⟩
noncomputable def tern_Has.C (n : Nat) : Ctx := { tab := tab, fts := fts, pts := pts, Γ := lookO [(77, wide_Zero.e n), (78, tern_unlike.e n)], Γc := lookO [], Γs := lookO [], Γm := lookO [], ntmps := f62.ntmps, keep := Vi.look ([], []) [], pins := [] }
theorem tern_Has.ok (n : Nat) : CtxOk prog (tern_Has.C n) := ⟨types, ftsOk_, ptsOk_, (fns_cons (wide_Zero.sound n) (fns_cons (tern_unlike.sound n) fns_nil)), cls_nil, sqs_nil, ems_nil, mixed⟩
theorem tern_Has.eq (n : Nat) (x : pdens tern_Has.ps) : Vi.run (tern_Has.C n) n f62 tern_Has.ps tern_Has.rs x = some (tern_Has x.1 x.2) := by kernel_rfl
theorem tern_Has.sound (n : Nat) : SoundE prog 62 (tern_Has.e n) :=
  soundE_of_run (C := tern_Has.C n) (n := n) (tern_Has.ok n) func62 (by kernel_rfl) (by kernel_rfl) (fun x r h => (tern_Has.eq n x).trans h)

def tern_Clean.rs : List RTy := [.data TTern]
def tern_Clean.ps : List PTy := [.data TTern]
noncomputable def tern_Clean.e (n : Nat) : Ent := ⟨tern_Clean.ps, tern_Clean.rs, fun x => some (tern_Clean x)⟩
noncomputable def tern_Clean.C (n : Nat) : Ctx := { tab := tab, fts := fts, pts := pts, Γ := lookO [(87, wide_And.e n)], Γc := lookO [], Γs := lookO [], Γm := lookO [], ntmps := f88.ntmps, keep := Vi.look ([], []) [], pins := [] }
theorem tern_Clean.ok (n : Nat) : CtxOk prog (tern_Clean.C n) := ⟨types, ftsOk_, ptsOk_, (fns_cons (wide_And.sound n) fns_nil), cls_nil, sqs_nil, ems_nil, mixed⟩
theorem tern_Clean.eq (n : Nat) (x : pdens tern_Clean.ps) : Vi.run (tern_Clean.C n) n f88 tern_Clean.ps tern_Clean.rs x = some (tern_Clean x) := by kernel_rfl
theorem tern_Clean.sound (n : Nat) : SoundE prog 88 (tern_Clean.e n) :=
  soundE_of_run (C := tern_Clean.C n) (n := n) (tern_Clean.ok n) func88 (by kernel_rfl) (by kernel_rfl) (fun x r h => (tern_Clean.eq n x).trans h)

def wide_Or.rs : List RTy := [.data TWide]
def wide_Or.ps : List PTy := [.data TWide, .data TWide]
noncomputable def wide_Or.e (n : Nat) : Ent := ⟨wide_Or.ps, wide_Or.rs, fun x => some (wide_Or x.1 x.2)⟩
noncomputable def wide_Or.C (n : Nat) : Ctx := { tab := tab, fts := fts, pts := pts, Γ := lookO [], Γc := lookO [], Γs := lookO [], Γm := lookO [], ntmps := f89.ntmps, keep := Vi.look ([], []) [], pins := [] }
theorem wide_Or.ok (n : Nat) : CtxOk prog (wide_Or.C n) := ⟨types, ftsOk_, ptsOk_, fns_nil, cls_nil, sqs_nil, ems_nil, mixed⟩
theorem wide_Or.eq (n : Nat) (x : pdens wide_Or.ps) : Vi.run (wide_Or.C n) n f89 wide_Or.ps wide_Or.rs x = some (wide_Or x.1 x.2) := by kernel_rfl
theorem wide_Or.sound (n : Nat) : SoundE prog 89 (wide_Or.e n) :=
  soundE_of_run (C := wide_Or.C n) (n := n) (wide_Or.ok n) func89 (by kernel_rfl) (by kernel_rfl) (fun x r h => (wide_Or.eq n x).trans h)

def tern_Meet.rs : List RTy := [.data TTern, .data .bool]
def tern_Meet.ps : List PTy := [.data TTern, .data TTern]
noncomputable def tern_Meet.e (n : Nat) : Ent := ⟨tern_Meet.ps, tern_Meet.rs, fun x => some (tern_Meet x.1 x.2)⟩
noncomputable def tern_Meet.C (n : Nat) : Ctx := { tab := tab, fts := fts, pts := pts, Γ := lookO [(62, tern_Has.e n), (87, wide_And.e n), (88, tern_Clean.e n), (89, wide_Or.e n)], Γc := lookO [], Γs := lookO [], Γm := lookO [], ntmps := f73.ntmps, keep := Vi.look ([], []) [], pins := [] }
theorem tern_Meet.ok (n : Nat) : CtxOk prog (tern_Meet.C n) := ⟨types, ftsOk_, ptsOk_, (fns_cons (tern_Has.sound n) (fns_cons (wide_And.sound n) (fns_cons (tern_Clean.sound n) (fns_cons (wide_Or.sound n) fns_nil)))), cls_nil, sqs_nil, ems_nil, mixed⟩
theorem tern_Meet.run0 (n : Nat) (x : pdens tern_Meet.ps) : Vi.run (tern_Meet.C n) n f73 tern_Meet.ps tern_Meet.rs x = tern_Meet.o x.1 x.2 := by kernel_rfl
theorem tern_Meet.eq (n : Nat) (x : pdens tern_Meet.ps) : Vi.run (tern_Meet.C n) n f73 tern_Meet.ps tern_Meet.rs x = some (tern_Meet x.1 x.2) := (tern_Meet.run0 n x).trans (tern_Meet.o_eq _ _)
theorem tern_Meet.sound (n : Nat) : SoundE prog 73 (tern_Meet.e n) :=
  soundE_of_run (C := tern_Meet.C n) (n := n) (tern_Meet.ok n) func73 (by kernel_rfl) (by kernel_rfl) (fun x r h => (tern_Meet.eq n x).trans h)

def cube_Meet_1.rs : List Ty := [TTern, .bool]
def cube_Meet_1.ps : List Ty := [(.int .i64)]
def cube_Meet_1.caps : List PTy := [.cptr TCube, .cptr TCube]
noncomputable def cube_Meet_1.e (n : Nat) : Cl := ⟨cube_Meet_1.ps, cube_Meet_1.caps, cube_Meet_1.rs, fun x c => cube_Meet_1 x c.1 c.2⟩
noncomputable def cube_Meet_1.C (n : Nat) : Ctx := { tab := tab, fts := fts, pts := pts, Γ := lookO [(73, tern_Meet.e n)], Γc := lookO [], Γs := lookO [], Γm := lookO [], ntmps := f72.ntmps, keep := Vi.look ([], []) [], pins := [] }
theorem cube_Meet_1.ok (n : Nat) : CtxOk prog (cube_Meet_1.C n) := ⟨types, ftsOk_, ptsOk_, (fns_cons (tern_Meet.sound n) fns_nil), cls_nil, sqs_nil, ems_nil, mixed⟩
theorem cube_Meet_1.eq (n : Nat) (x : dens cube_Meet_1.ps) (c : pdens cube_Meet_1.caps) : Vi.runC (cube_Meet_1.C n) n f72 cube_Meet_1.ps cube_Meet_1.caps cube_Meet_1.rs x c = cube_Meet_1 x c.1 c.2 := by kernel_rfl
theorem cube_Meet_1.sound (n : Nat) : SoundC prog 72 (cube_Meet_1.e n) :=
  soundC_of_run (C := cube_Meet_1.C n) (n := n) (cube_Meet_1.ok n) func72 (by kernel_rfl) (by kernel_rfl) (fun x c r h => (cube_Meet_1.eq n x c).trans h)

def cube_each.rs : List RTy := [.data TCube, .data .bool]
def cube_each.ps : List PTy := [.fnp [(.int .i64)] [TTern, .bool]]
noncomputable def cube_each.e (n : Nat) : Ent := ⟨cube_each.ps, cube_each.rs, fun x => cube_each n x⟩
noncomputable def cube_each.C (n : Nat) : Ctx := { tab := tab, fts := fts, pts := pts, Γ := lookO [], Γc := lookO [], Γs := lookO [], Γm := lookO [], ntmps := f71.ntmps, keep := Vi.look ([], []) [(3, ([0, 2, 4, 8], [2, 4]))], pins := [] }
theorem cube_each.ok (n : Nat) : CtxOk prog (cube_each.C n) := ⟨types, ftsOk_, ptsOk_, fns_nil, cls_nil, sqs_nil, ems_nil, mixed⟩
noncomputable def cube_each.code : Code := bodyOf f71
theorem cube_each.l0.step (n : Nat) (m0 : Nat) (f_1 : (Int → Option (Tern × Bool))) (v8 : Int) (v2 : Cube) (c : Cube) : it (EmR.no _) (cube_each.C n) n (Code.go cube_each.code [1, 1, 0, 1, 0, 0]) (blockK 0 (seqK (EmR.no _) (cube_each.C n) n (Code.go cube_each.code [1, 1, 1]) (bodyK (cube_each.C n) f71 cube_each.rs))) (m0 + 1) ⟨[(0, .fn [(.int .i64)] [TTern, .bool] f_1), (2, .ptr 2 0 TCube []), (4, .ptr 4 0 TCube []), (8, .dat (.int .i64) v8)], [(2, .box 0 false (.dat TCube v2)), (4, .box 0 false (.dat TCube c))]⟩ = cube_each.s0 n (fun (v8' : Int) (c' : Cube) => it (EmR.no _) (cube_each.C n) n (Code.go cube_each.code [1, 1, 0, 1, 0, 0]) (blockK 0 (seqK (EmR.no _) (cube_each.C n) n (Code.go cube_each.code [1, 1, 1]) (bodyK (cube_each.C n) f71 cube_each.rs))) m0 ⟨[(0, .fn [(.int .i64)] [TTern, .bool] f_1), (2, .ptr 2 0 TCube []), (4, .ptr 4 0 TCube []), (8, .dat (.int .i64) (v8'))], [(2, .box 0 false (.dat TCube v2)), (4, .box 0 false (.dat TCube (c')))]⟩) f_1 v8 v2 c := by kernel_rfl
theorem cube_each.l0.eq (n : Nat) (f_1 : (Int → Option (Tern × Bool))) (v2 : Cube) : ∀ (m0 : Nat) (v8 : Int) (c : Cube), it (EmR.no _) (cube_each.C n) n (Code.go cube_each.code [1, 1, 0, 1, 0, 0]) (blockK 0 (seqK (EmR.no _) (cube_each.C n) n (Code.go cube_each.code [1, 1, 1]) (bodyK (cube_each.C n) f71 cube_each.rs))) m0 ⟨[(0, .fn [(.int .i64)] [TTern, .bool] f_1), (2, .ptr 2 0 TCube []), (4, .ptr 4 0 TCube []), (8, .dat (.int .i64) v8)], [(2, .box 0 false (.dat TCube v2)), (4, .box 0 false (.dat TCube c))]⟩ = cube_each.l0 n f_1 v2 m0 v8 c
  | 0, _, _ => rfl
  | m0 + 1, v8, c =>
    (cube_each.l0.step n m0 f_1 v8 v2 c).trans (congr1 (fun k0 => cube_each.s0 n k0 f_1 v8 v2 c) (funext fun v8' => funext fun c' => cube_each.l0.eq n f_1 v2 m0 v8' c'))
theorem cube_each.run0 (n : Nat) (x : pdens cube_each.ps) : Vi.run (cube_each.C n) n f71 cube_each.ps cube_each.rs x = cube_each.s n (fun (f_1' : (Int → Option (Tern × Bool))) (v8' : Int) (v2' : Cube) (c' : Cube) => it (EmR.no _) (cube_each.C n) n (Code.go cube_each.code [1, 1, 0, 1, 0, 0]) (blockK 0 (seqK (EmR.no _) (cube_each.C n) n (Code.go cube_each.code [1, 1, 1]) (bodyK (cube_each.C n) f71 cube_each.rs))) n ⟨[(0, .fn [(.int .i64)] [TTern, .bool] (f_1')), (2, .ptr 2 0 TCube []), (4, .ptr 4 0 TCube []), (8, .dat (.int .i64) (v8'))], [(2, .box 0 false (.dat TCube (v2'))), (4, .box 0 false (.dat TCube (c')))]⟩) x := by kernel_rfl
theorem cube_each.eq (n : Nat) (x : pdens cube_each.ps) : Vi.run (cube_each.C n) n f71 cube_each.ps cube_each.rs x = cube_each n x :=
  (cube_each.run0 n x).trans (congr1 (fun k0 => cube_each.s n k0 x) (funext fun f_1' => funext fun v8' => funext fun v2' => funext fun c' => cube_each.l0.eq n f_1' v2' n v8' c'))
theorem cube_each.sound (n : Nat) : SoundE prog 71 (cube_each.e n) :=
  soundE_of_run (C := cube_each.C n) (n := n) (cube_each.ok n) func71 (by kernel_rfl) (by kernel_rfl) (fun x r h => (cube_each.eq n x).trans h)

def cube_Meet.rs : List RTy := [.data TCube, .data .bool]
def cube_Meet.ps : List PTy := [.data TCube, .data TCube]
noncomputable def cube_Meet.e (n : Nat) : Ent := ⟨cube_Meet.ps, cube_Meet.rs, fun x => cube_Meet n x.1 x.2⟩
noncomputable def cube_Meet.C (n : Nat) : Ctx := { tab := tab, fts := fts, pts := pts, Γ := lookO [(71, cube_each.e n)], Γc := lookO [(72, cube_Meet_1.e n)], Γs := lookO [], Γm := lookO [], ntmps := f53.ntmps, keep := Vi.look ([], []) [], pins := [] }
theorem cube_Meet.ok (n : Nat) : CtxOk prog (cube_Meet.C n) := ⟨types, ftsOk_, ptsOk_, (fns_cons (cube_each.sound n) fns_nil), (cls_cons (cube_Meet_1.sound n) cls_nil), sqs_nil, ems_nil, mixed⟩
theorem cube_Meet.eq (n : Nat) (x : pdens cube_Meet.ps) : Vi.run (cube_Meet.C n) n f53 cube_Meet.ps cube_Meet.rs x = cube_Meet n x.1 x.2 := by kernel_rfl
theorem cube_Meet.sound (n : Nat) : SoundE prog 53 (cube_Meet.e n) :=
  soundE_of_run (C := cube_Meet.C n) (n := n) (cube_Meet.ok n) func53 (by kernel_rfl) (by kernel_rfl) (fun x r h => (cube_Meet.eq n x).trans h)

def wide_Less.rs : List RTy := [.data TWide]
def wide_Less.ps : List PTy := [.data TWide, .data TWide]
noncomputable def wide_Less.e (n : Nat) : Ent := ⟨wide_Less.ps, wide_Less.rs, fun x => some (wide_Less x.1 x.2)⟩
noncomputable def wide_Less.C (n : Nat) : Ctx := { tab := tab, fts := fts, pts := pts, Γ := lookO [], Γc := lookO [], Γs := lookO [], Γm := lookO [], ntmps := f111.ntmps, keep := Vi.look ([], []) [], pins := [] }
theorem wide_Less.ok (n : Nat) : CtxOk prog (wide_Less.C n) := ⟨types, ftsOk_, ptsOk_, fns_nil, cls_nil, sqs_nil, ems_nil, mixed⟩
theorem wide_Less.eq (n : Nat) (x : pdens wide_Less.ps) : Vi.run (wide_Less.C n) n f111 wide_Less.ps wide_Less.rs x = some (wide_Less x.1 x.2) := by kernel_rfl
theorem wide_Less.sound (n : Nat) : SoundE prog 111 (wide_Less.e n) :=
  soundE_of_run (C := wide_Less.C n) (n := n) (wide_Less.ok n) func111 (by kernel_rfl) (by kernel_rfl) (fun x r h => (wide_Less.eq n x).trans h)

def tern_Within.rs : List RTy := [.data .bool]
def tern_Within.ps : List PTy := [.data TTern, .data TTern]
noncomputable def tern_Within.e (n : Nat) : Ent := ⟨tern_Within.ps, tern_Within.rs, fun x => some (tern_Within x.1 x.2)⟩
noncomputable def tern_Within.C (n : Nat) : Ctx := { tab := tab, fts := fts, pts := pts, Γ := lookO [(62, tern_Has.e n), (77, wide_Zero.e n), (111, wide_Less.e n)], Γc := lookO [], Γs := lookO [], Γm := lookO [], ntmps := f109.ntmps, keep := Vi.look ([], []) [], pins := [] }
theorem tern_Within.ok (n : Nat) : CtxOk prog (tern_Within.C n) := ⟨types, ftsOk_, ptsOk_, (fns_cons (tern_Has.sound n) (fns_cons (wide_Zero.sound n) (fns_cons (wide_Less.sound n) fns_nil))), cls_nil, sqs_nil, ems_nil, mixed⟩
theorem tern_Within.run0 (n : Nat) (x : pdens tern_Within.ps) : Vi.run (tern_Within.C n) n f109 tern_Within.ps tern_Within.rs x = tern_Within.o x.1 x.2 := by kernel_rfl
theorem tern_Within.eq (n : Nat) (x : pdens tern_Within.ps) : Vi.run (tern_Within.C n) n f109 tern_Within.ps tern_Within.rs x = some (tern_Within x.1 x.2) := (tern_Within.run0 n x).trans (tern_Within.o_eq _ _)
theorem tern_Within.sound (n : Nat) : SoundE prog 109 (tern_Within.e n) :=
  soundE_of_run (C := tern_Within.C n) (n := n) (tern_Within.ok n) func109 (by kernel_rfl) (by kernel_rfl) (fun x r h => (tern_Within.eq n x).trans h)

def cube_Within.rs : List RTy := [.data .bool]
def cube_Within.ps : List PTy := [.data TCube, .data TCube]
noncomputable def cube_Within.e (n : Nat) : Ent := ⟨cube_Within.ps, cube_Within.rs, fun x => cube_Within n x.1 x.2⟩
noncomputable def cube_Within.C (n : Nat) : Ctx := { tab := tab, fts := fts, pts := pts, Γ := lookO [(109, tern_Within.e n)], Γc := lookO [], Γs := lookO [], Γm := lookO [], ntmps := f97.ntmps, keep := Vi.look ([], []) [(2, ([3, 7, 8], [3]))], pins := [] }
theorem cube_Within.ok (n : Nat) : CtxOk prog (cube_Within.C n) := ⟨types, ftsOk_, ptsOk_, (fns_cons (tern_Within.sound n) fns_nil), cls_nil, sqs_nil, ems_nil, mixed⟩
noncomputable def cube_Within.code : Code := bodyOf f97
theorem cube_Within.l0.step (n : Nat) (m0 : Nat) (v7 : Cube) (v8 : Int) (b_1 : Cube) : it (EmR.no _) (cube_Within.C n) n (Code.go cube_Within.code [1, 0, 1, 0, 0]) (blockK 0 (seqK (EmR.no _) (cube_Within.C n) n (Code.go cube_Within.code [1, 1]) (bodyK (cube_Within.C n) f97 cube_Within.rs))) (m0 + 1) ⟨[(3, .ptr 3 0 TCube []), (7, .dat TCube v7), (8, .dat (.int .i64) v8)], [(3, .box 0 false (.dat TCube b_1))]⟩ = cube_Within.s0 n (fun (v8' : Int) => it (EmR.no _) (cube_Within.C n) n (Code.go cube_Within.code [1, 0, 1, 0, 0]) (blockK 0 (seqK (EmR.no _) (cube_Within.C n) n (Code.go cube_Within.code [1, 1]) (bodyK (cube_Within.C n) f97 cube_Within.rs))) m0 ⟨[(3, .ptr 3 0 TCube []), (7, .dat TCube v7), (8, .dat (.int .i64) (v8'))], [(3, .box 0 false (.dat TCube b_1))]⟩) v7 v8 b_1 := by kernel_rfl
theorem cube_Within.l0.eq (n : Nat) (v7 : Cube) (b_1 : Cube) : ∀ (m0 : Nat) (v8 : Int), it (EmR.no _) (cube_Within.C n) n (Code.go cube_Within.code [1, 0, 1, 0, 0]) (blockK 0 (seqK (EmR.no _) (cube_Within.C n) n (Code.go cube_Within.code [1, 1]) (bodyK (cube_Within.C n) f97 cube_Within.rs))) m0 ⟨[(3, .ptr 3 0 TCube []), (7, .dat TCube v7), (8, .dat (.int .i64) v8)], [(3, .box 0 false (.dat TCube b_1))]⟩ = cube_Within.l0 n v7 b_1 m0 v8
  | 0, _ => rfl
  | m0 + 1, v8 =>
    (cube_Within.l0.step n m0 v7 v8 b_1).trans (congr1 (fun k0 => cube_Within.s0 n k0 v7 v8 b_1) (funext fun v8' => cube_Within.l0.eq n v7 b_1 m0 v8'))
theorem cube_Within.run0 (n : Nat) (x : pdens cube_Within.ps) : Vi.run (cube_Within.C n) n f97 cube_Within.ps cube_Within.rs x = cube_Within.s n (fun (v7' : Cube) (v8' : Int) (b_1' : Cube) => it (EmR.no _) (cube_Within.C n) n (Code.go cube_Within.code [1, 0, 1, 0, 0]) (blockK 0 (seqK (EmR.no _) (cube_Within.C n) n (Code.go cube_Within.code [1, 1]) (bodyK (cube_Within.C n) f97 cube_Within.rs))) n ⟨[(3, .ptr 3 0 TCube []), (7, .dat TCube (v7')), (8, .dat (.int .i64) (v8'))], [(3, .box 0 false (.dat TCube (b_1')))]⟩) x.1 x.2 := by kernel_rfl
theorem cube_Within.eq (n : Nat) (x : pdens cube_Within.ps) : Vi.run (cube_Within.C n) n f97 cube_Within.ps cube_Within.rs x = cube_Within n x.1 x.2 :=
  (cube_Within.run0 n x).trans (congr1 (fun k0 => cube_Within.s n k0 x.1 x.2) (funext fun v7' => funext fun v8' => funext fun b_1' => cube_Within.l0.eq n v7' b_1' n v8'))
theorem cube_Within.sound (n : Nat) : SoundE prog 97 (cube_Within.e n) :=
  soundE_of_run (C := cube_Within.C n) (n := n) (cube_Within.ok n) func97 (by kernel_rfl) (by kernel_rfl) (fun x r h => (cube_Within.eq n x).trans h)

def cover_among.rs : List RTy := [.data .bool, .data (.int .i64)]
def cover_among.ps : List PTy := [.data TCube, .data (.slc TCube)]
noncomputable def cover_among.e (n : Nat) : Ent := ⟨cover_among.ps, cover_among.rs, fun x => cover_among n x.1 x.2⟩
noncomputable def cover_among.C (n : Nat) : Ctx := { tab := tab, fts := fts, pts := pts, Γ := lookO [(53, cube_Meet.e n), (97, cube_Within.e n)], Γc := lookO [], Γs := lookO [], Γm := lookO [], ntmps := f80.ntmps, keep := Vi.look ([], []) [(3, ([2, 6, 11, 12, 13], [2]))], pins := [] }
theorem cover_among.ok (n : Nat) : CtxOk prog (cover_among.C n) := ⟨types, ftsOk_, ptsOk_, (fns_cons (cube_Meet.sound n) (fns_cons (cube_Within.sound n) fns_nil)), cls_nil, sqs_nil, ems_nil, mixed⟩
noncomputable def cover_among.code : Code := bodyOf f80
theorem cover_among.l0.step (n : Nat) (m0 : Nat) (first : Int) (v11 : (List Cube)) (v12 : Int) (v13 : Int) (c_1 : Cube) : it (EmR.no _) (cover_among.C n) n (Code.go cover_among.code [1, 1, 0, 1, 0, 0]) (blockK 0 (seqK (EmR.no _) (cover_among.C n) n (Code.go cover_among.code [1, 1, 1]) (bodyK (cover_among.C n) f80 cover_among.rs))) (m0 + 1) ⟨[(2, .ptr 2 0 TCube []), (6, .dat (.int .i64) first), (11, .dat (.slc TCube) v11), (12, .dat (.int .i64) v12), (13, .dat (.int .i64) v13)], [(2, .box 0 false (.dat TCube c_1))]⟩ = cover_among.s0 n (fun (first' : Int) (v13' : Int) => it (EmR.no _) (cover_among.C n) n (Code.go cover_among.code [1, 1, 0, 1, 0, 0]) (blockK 0 (seqK (EmR.no _) (cover_among.C n) n (Code.go cover_among.code [1, 1, 1]) (bodyK (cover_among.C n) f80 cover_among.rs))) m0 ⟨[(2, .ptr 2 0 TCube []), (6, .dat (.int .i64) (first')), (11, .dat (.slc TCube) v11), (12, .dat (.int .i64) v12), (13, .dat (.int .i64) (v13'))], [(2, .box 0 false (.dat TCube c_1))]⟩) first v11 v12 v13 c_1 := by kernel_rfl
theorem cover_among.l0.eq (n : Nat) (v11 : (List Cube)) (v12 : Int) (c_1 : Cube) : ∀ (m0 : Nat) (first : Int) (v13 : Int), it (EmR.no _) (cover_among.C n) n (Code.go cover_among.code [1, 1, 0, 1, 0, 0]) (blockK 0 (seqK (EmR.no _) (cover_among.C n) n (Code.go cover_among.code [1, 1, 1]) (bodyK (cover_among.C n) f80 cover_among.rs))) m0 ⟨[(2, .ptr 2 0 TCube []), (6, .dat (.int .i64) first), (11, .dat (.slc TCube) v11), (12, .dat (.int .i64) v12), (13, .dat (.int .i64) v13)], [(2, .box 0 false (.dat TCube c_1))]⟩ = cover_among.l0 n v11 v12 c_1 m0 first v13
  | 0, _, _ => rfl
  | m0 + 1, first, v13 =>
    (cover_among.l0.step n m0 first v11 v12 v13 c_1).trans (congr1 (fun k0 => cover_among.s0 n k0 first v11 v12 v13 c_1) (funext fun first' => funext fun v13' => cover_among.l0.eq n v11 v12 c_1 m0 first' v13'))
theorem cover_among.run0 (n : Nat) (x : pdens cover_among.ps) : Vi.run (cover_among.C n) n f80 cover_among.ps cover_among.rs x = cover_among.s n (fun (first' : Int) (v11' : (List Cube)) (v12' : Int) (v13' : Int) (c_1' : Cube) => it (EmR.no _) (cover_among.C n) n (Code.go cover_among.code [1, 1, 0, 1, 0, 0]) (blockK 0 (seqK (EmR.no _) (cover_among.C n) n (Code.go cover_among.code [1, 1, 1]) (bodyK (cover_among.C n) f80 cover_among.rs))) n ⟨[(2, .ptr 2 0 TCube []), (6, .dat (.int .i64) (first')), (11, .dat (.slc TCube) (v11')), (12, .dat (.int .i64) (v12')), (13, .dat (.int .i64) (v13'))], [(2, .box 0 false (.dat TCube (c_1')))]⟩) x.1 x.2 := by kernel_rfl
theorem cover_among.eq (n : Nat) (x : pdens cover_among.ps) : Vi.run (cover_among.C n) n f80 cover_among.ps cover_among.rs x = cover_among n x.1 x.2 :=
  (cover_among.run0 n x).trans (congr1 (fun k0 => cover_among.s n k0 x.1 x.2) (funext fun first' => funext fun v11' => funext fun v12' => funext fun v13' => funext fun c_1' => cover_among.l0.eq n v11' v12' c_1' n first' v13'))
theorem cover_among.sound (n : Nat) : SoundE prog 80 (cover_among.e n) :=
  soundE_of_run (C := cover_among.C n) (n := n) (cover_among.ok n) func80 (by kernel_rfl) (by kernel_rfl) (fun x r h => (cover_among.eq n x).trans h)

def cube_Pick.rs : List RTy := [.data THeader]
def cube_Pick.ps : List PTy := [.data TCube]
noncomputable def cube_Pick.e (n : Nat) : Ent := ⟨cube_Pick.ps, cube_Pick.rs, fun x => cube_Pick n x⟩
noncomputable def cube_Pick.C (n : Nat) : Ctx := { tab := tab, fts := fts, pts := pts, Γ := lookO [(88, tern_Clean.e n)], Γc := lookO [], Γs := lookO [], Γm := lookO [], ntmps := f81.ntmps, keep := Vi.look ([], []) [(3, ([2, 3, 6, 7], [2, 3]))], pins := [] }
theorem cube_Pick.ok (n : Nat) : CtxOk prog (cube_Pick.C n) := ⟨types, ftsOk_, ptsOk_, (fns_cons (tern_Clean.sound n) fns_nil), cls_nil, sqs_nil, ems_nil, mixed⟩
noncomputable def cube_Pick.code : Code := bodyOf f81
theorem cube_Pick.l0.step (n : Nat) (m0 : Nat) (v6 : Cube) (v7 : Int) (v2 : Header) (h : Header) : it (EmR.no _) (cube_Pick.C n) n (Code.go cube_Pick.code [1, 1, 0, 1, 0, 0]) (blockK 0 (seqK (EmR.no _) (cube_Pick.C n) n (Code.go cube_Pick.code [1, 1, 1]) (bodyK (cube_Pick.C n) f81 cube_Pick.rs))) (m0 + 1) ⟨[(2, .ptr 2 0 THeader []), (3, .ptr 3 0 THeader []), (6, .dat TCube v6), (7, .dat (.int .i64) v7)], [(2, .box 0 false (.dat THeader v2)), (3, .box 0 false (.dat THeader h))]⟩ = cube_Pick.s0 n (fun (v7' : Int) (h' : Header) => it (EmR.no _) (cube_Pick.C n) n (Code.go cube_Pick.code [1, 1, 0, 1, 0, 0]) (blockK 0 (seqK (EmR.no _) (cube_Pick.C n) n (Code.go cube_Pick.code [1, 1, 1]) (bodyK (cube_Pick.C n) f81 cube_Pick.rs))) m0 ⟨[(2, .ptr 2 0 THeader []), (3, .ptr 3 0 THeader []), (6, .dat TCube v6), (7, .dat (.int .i64) (v7'))], [(2, .box 0 false (.dat THeader v2)), (3, .box 0 false (.dat THeader (h')))]⟩) v6 v7 v2 h := by kernel_rfl
theorem cube_Pick.l0.eq (n : Nat) (v6 : Cube) (v2 : Header) : ∀ (m0 : Nat) (v7 : Int) (h : Header), it (EmR.no _) (cube_Pick.C n) n (Code.go cube_Pick.code [1, 1, 0, 1, 0, 0]) (blockK 0 (seqK (EmR.no _) (cube_Pick.C n) n (Code.go cube_Pick.code [1, 1, 1]) (bodyK (cube_Pick.C n) f81 cube_Pick.rs))) m0 ⟨[(2, .ptr 2 0 THeader []), (3, .ptr 3 0 THeader []), (6, .dat TCube v6), (7, .dat (.int .i64) v7)], [(2, .box 0 false (.dat THeader v2)), (3, .box 0 false (.dat THeader h))]⟩ = cube_Pick.l0 n v6 v2 m0 v7 h
  | 0, _, _ => rfl
  | m0 + 1, v7, h =>
    (cube_Pick.l0.step n m0 v6 v7 v2 h).trans (congr1 (fun k0 => cube_Pick.s0 n k0 v6 v7 v2 h) (funext fun v7' => funext fun h' => cube_Pick.l0.eq n v6 v2 m0 v7' h'))
theorem cube_Pick.run0 (n : Nat) (x : pdens cube_Pick.ps) : Vi.run (cube_Pick.C n) n f81 cube_Pick.ps cube_Pick.rs x = cube_Pick.s n (fun (v6' : Cube) (v7' : Int) (v2' : Header) (h' : Header) => it (EmR.no _) (cube_Pick.C n) n (Code.go cube_Pick.code [1, 1, 0, 1, 0, 0]) (blockK 0 (seqK (EmR.no _) (cube_Pick.C n) n (Code.go cube_Pick.code [1, 1, 1]) (bodyK (cube_Pick.C n) f81 cube_Pick.rs))) n ⟨[(2, .ptr 2 0 THeader []), (3, .ptr 3 0 THeader []), (6, .dat TCube (v6')), (7, .dat (.int .i64) (v7'))], [(2, .box 0 false (.dat THeader (v2'))), (3, .box 0 false (.dat THeader (h')))]⟩) x := by kernel_rfl
theorem cube_Pick.eq (n : Nat) (x : pdens cube_Pick.ps) : Vi.run (cube_Pick.C n) n f81 cube_Pick.ps cube_Pick.rs x = cube_Pick n x :=
  (cube_Pick.run0 n x).trans (congr1 (fun k0 => cube_Pick.s n k0 x) (funext fun v6' => funext fun v7' => funext fun v2' => funext fun h' => cube_Pick.l0.eq n v6' v2' n v7' h'))
theorem cube_Pick.sound (n : Nat) : SoundE prog 81 (cube_Pick.e n) :=
  soundE_of_run (C := cube_Pick.C n) (n := n) (cube_Pick.ok n) func81 (by kernel_rfl) (by kernel_rfl) (fun x r h => (cube_Pick.eq n x).trans h)

def cube_Clean_1.rs : List Ty := [TTern, .bool]
def cube_Clean_1.ps : List Ty := [(.int .i64)]
def cube_Clean_1.caps : List PTy := [.cptr TCube]
noncomputable def cube_Clean_1.e (n : Nat) : Cl := ⟨cube_Clean_1.ps, cube_Clean_1.caps, cube_Clean_1.rs, fun x c => cube_Clean_1 x c⟩
noncomputable def cube_Clean_1.C (n : Nat) : Ctx := { tab := tab, fts := fts, pts := pts, Γ := lookO [(88, tern_Clean.e n)], Γc := lookO [], Γs := lookO [], Γm := lookO [], ntmps := f110.ntmps, keep := Vi.look ([], []) [], pins := [] }
theorem cube_Clean_1.ok (n : Nat) : CtxOk prog (cube_Clean_1.C n) := ⟨types, ftsOk_, ptsOk_, (fns_cons (tern_Clean.sound n) fns_nil), cls_nil, sqs_nil, ems_nil, mixed⟩
theorem cube_Clean_1.eq (n : Nat) (x : dens cube_Clean_1.ps) (c : pdens cube_Clean_1.caps) : Vi.runC (cube_Clean_1.C n) n f110 cube_Clean_1.ps cube_Clean_1.caps cube_Clean_1.rs x c = cube_Clean_1 x c := by kernel_rfl
theorem cube_Clean_1.sound (n : Nat) : SoundC prog 110 (cube_Clean_1.e n) :=
  soundC_of_run (C := cube_Clean_1.C n) (n := n) (cube_Clean_1.ok n) func110 (by kernel_rfl) (by kernel_rfl) (fun x c r h => (cube_Clean_1.eq n x c).trans h)

def cube_Clean.rs : List RTy := [.data TCube]
def cube_Clean.ps : List PTy := [.data TCube]
noncomputable def cube_Clean.e (n : Nat) : Ent := ⟨cube_Clean.ps, cube_Clean.rs, fun x => cube_Clean n x⟩
noncomputable def cube_Clean.C (n : Nat) : Ctx := { tab := tab, fts := fts, pts := pts, Γ := lookO [(71, cube_each.e n)], Γc := lookO [(110, cube_Clean_1.e n)], Γs := lookO [], Γm := lookO [], ntmps := f99.ntmps, keep := Vi.look ([], []) [], pins := [] }
theorem cube_Clean.ok (n : Nat) : CtxOk prog (cube_Clean.C n) := ⟨types, ftsOk_, ptsOk_, (fns_cons (cube_each.sound n) fns_nil), (cls_cons (cube_Clean_1.sound n) cls_nil), sqs_nil, ems_nil, mixed⟩
theorem cube_Clean.eq (n : Nat) (x : pdens cube_Clean.ps) : Vi.run (cube_Clean.C n) n f99 cube_Clean.ps cube_Clean.rs x = cube_Clean n x := by kernel_rfl
theorem cube_Clean.sound (n : Nat) : SoundE prog 99 (cube_Clean.e n) :=
  soundE_of_run (C := cube_Clean.C n) (n := n) (cube_Clean.ok n) func99 (by kernel_rfl) (by kernel_rfl) (fun x r h => (cube_Clean.eq n x).trans h)

def math_bits_OnesCount64.rs : List RTy := [.data (.int .i64)]
def math_bits_OnesCount64.ps : List PTy := [.data (.int .u64)]
noncomputable def math_bits_OnesCount64.e (n : Nat) : Ent := ⟨math_bits_OnesCount64.ps, math_bits_OnesCount64.rs, fun x => some (math_bits_OnesCount64 x)⟩
noncomputable def math_bits_OnesCount64.C (n : Nat) : Ctx := { tab := tab, fts := fts, pts := pts, Γ := lookO [], Γc := lookO [], Γs := lookO [], Γm := lookO [], ntmps := f107.ntmps, keep := Vi.look ([], []) [], pins := [] }
theorem math_bits_OnesCount64.ok (n : Nat) : CtxOk prog (math_bits_OnesCount64.C n) := ⟨types, ftsOk_, ptsOk_, fns_nil, cls_nil, sqs_nil, ems_nil, mixed⟩
theorem math_bits_OnesCount64.eq (n : Nat) (x : pdens math_bits_OnesCount64.ps) : Vi.run (math_bits_OnesCount64.C n) n f107 math_bits_OnesCount64.ps math_bits_OnesCount64.rs x = some (math_bits_OnesCount64 x) := by kernel_rfl
theorem math_bits_OnesCount64.sound (n : Nat) : SoundE prog 107 (math_bits_OnesCount64.e n) :=
  soundE_of_run (C := math_bits_OnesCount64.C n) (n := n) (math_bits_OnesCount64.ok n) func107 (by kernel_rfl) (by kernel_rfl) (fun x r h => (math_bits_OnesCount64.eq n x).trans h)

def wide_Many.rs : List RTy := [.data (.int .i64)]
def wide_Many.ps : List PTy := [.data TWide]
noncomputable def wide_Many.e (n : Nat) : Ent := ⟨wide_Many.ps, wide_Many.rs, fun x => some (wide_Many x)⟩
noncomputable def wide_Many.C (n : Nat) : Ctx := { tab := tab, fts := fts, pts := pts, Γ := lookO [(107, math_bits_OnesCount64.e n)], Γc := lookO [], Γs := lookO [], Γm := lookO [], ntmps := f86.ntmps, keep := Vi.look ([], []) [], pins := [] }
theorem wide_Many.ok (n : Nat) : CtxOk prog (wide_Many.C n) := ⟨types, ftsOk_, ptsOk_, (fns_cons (math_bits_OnesCount64.sound n) fns_nil), cls_nil, sqs_nil, ems_nil, mixed⟩
theorem wide_Many.eq (n : Nat) (x : pdens wide_Many.ps) : Vi.run (wide_Many.C n) n f86 wide_Many.ps wide_Many.rs x = some (wide_Many x) := by kernel_rfl
theorem wide_Many.sound (n : Nat) : SoundE prog 86 (wide_Many.e n) :=
  soundE_of_run (C := wide_Many.C n) (n := n) (wide_Many.ok n) func86 (by kernel_rfl) (by kernel_rfl) (fun x r h => (wide_Many.eq n x).trans h)

def wide_Bit.rs : List RTy := [.data TWide]
def wide_Bit.ps : List PTy := [.data (.int .i64)]
noncomputable def wide_Bit.e (n : Nat) : Ent := ⟨wide_Bit.ps, wide_Bit.rs, fun x => wide_Bit x⟩
noncomputable def wide_Bit.C (n : Nat) : Ctx := { tab := tab, fts := fts, pts := pts, Γ := lookO [], Γc := lookO [], Γs := lookO [], Γm := lookO [], ntmps := f112.ntmps, keep := Vi.look ([], []) [], pins := [] }
theorem wide_Bit.ok (n : Nat) : CtxOk prog (wide_Bit.C n) := ⟨types, ftsOk_, ptsOk_, fns_nil, cls_nil, sqs_nil, ems_nil, mixed⟩
theorem wide_Bit.eq (n : Nat) (x : pdens wide_Bit.ps) : Vi.run (wide_Bit.C n) n f112 wide_Bit.ps wide_Bit.rs x = wide_Bit x := by kernel_rfl
theorem wide_Bit.sound (n : Nat) : SoundE prog 112 (wide_Bit.e n) :=
  soundE_of_run (C := wide_Bit.C n) (n := n) (wide_Bit.ok n) func112 (by kernel_rfl) (by kernel_rfl) (fun x r h => (wide_Bit.eq n x).trans h)

def wide_Has.rs : List RTy := [.data .bool]
def wide_Has.ps : List PTy := [.data TWide, .data (.int .i64)]
noncomputable def wide_Has.e (n : Nat) : Ent := ⟨wide_Has.ps, wide_Has.rs, fun x => wide_Has x.1 x.2⟩
noncomputable def wide_Has.C (n : Nat) : Ctx := { tab := tab, fts := fts, pts := pts, Γ := lookO [(77, wide_Zero.e n), (87, wide_And.e n), (112, wide_Bit.e n)], Γc := lookO [], Γs := lookO [], Γm := lookO [], ntmps := f101.ntmps, keep := Vi.look ([], []) [], pins := [] }
theorem wide_Has.ok (n : Nat) : CtxOk prog (wide_Has.C n) := ⟨types, ftsOk_, ptsOk_, (fns_cons (wide_Zero.sound n) (fns_cons (wide_And.sound n) (fns_cons (wide_Bit.sound n) fns_nil))), cls_nil, sqs_nil, ems_nil, mixed⟩
theorem wide_Has.eq (n : Nat) (x : pdens wide_Has.ps) : Vi.run (wide_Has.C n) n f101 wide_Has.ps wide_Has.rs x = wide_Has x.1 x.2 := by kernel_rfl
theorem wide_Has.sound (n : Nat) : SoundE prog 101 (wide_Has.e n) :=
  soundE_of_run (C := wide_Has.C n) (n := n) (wide_Has.ok n) func101 (by kernel_rfl) (by kernel_rfl) (fun x r h => (wide_Has.eq n x).trans h)

def tern_Bits.rs : List RTy := [.fresh (.int .i64)]
def tern_Bits.ps : List PTy := [.data TTern, .data TTern]
noncomputable def tern_Bits.e (n : Nat) : Ent := ⟨tern_Bits.ps, tern_Bits.rs, fun x => tern_Bits n x.1 x.2⟩
noncomputable def tern_Bits.C (n : Nat) : Ctx := { tab := tab, fts := fts, pts := pts, Γ := lookO [(86, wide_Many.e n), (101, wide_Has.e n), (111, wide_Less.e n)], Γc := lookO [], Γs := lookO [], Γm := lookO [], ntmps := f100.ntmps, keep := Vi.look ([], []) [(4, ([5, 6, 7], [5]))], pins := [] }
theorem tern_Bits.ok (n : Nat) : CtxOk prog (tern_Bits.C n) := ⟨types, ftsOk_, ptsOk_, (fns_cons (wide_Many.sound n) (fns_cons (wide_Has.sound n) (fns_cons (wide_Less.sound n) fns_nil))), cls_nil, sqs_nil, ems_nil, mixed⟩
noncomputable def tern_Bits.code : Code := bodyOf f100
theorem tern_Bits.l0.step (n : Nat) (m0 : Nat) (out : (List Int)) (i : Int) (free : Wide) : it (EmR.no _) (tern_Bits.C n) n (Code.go tern_Bits.code [1, 1, 1, 0, 1, 0, 0]) (blockK 0 (seqK (EmR.no _) (tern_Bits.C n) n (Code.go tern_Bits.code [1, 1, 1, 1]) (bodyK (tern_Bits.C n) f100 tern_Bits.rs))) (m0 + 1) ⟨[(5, .ptr 5 0 TWide []), (6, .lst (.tip 100006 0) (.int .i64) out), (7, .dat (.int .i64) i)], [(100006, .tok 0), (5, .box 0 false (.dat TWide free))]⟩ = tern_Bits.s0 n (fun (out' : (List Int)) (i' : Int) => it (EmR.no _) (tern_Bits.C n) n (Code.go tern_Bits.code [1, 1, 1, 0, 1, 0, 0]) (blockK 0 (seqK (EmR.no _) (tern_Bits.C n) n (Code.go tern_Bits.code [1, 1, 1, 1]) (bodyK (tern_Bits.C n) f100 tern_Bits.rs))) m0 ⟨[(5, .ptr 5 0 TWide []), (6, .lst (.tip 100006 0) (.int .i64) (out')), (7, .dat (.int .i64) (i'))], [(100006, .tok 0), (5, .box 0 false (.dat TWide free))]⟩) out i free := by kernel_rfl
theorem tern_Bits.l0.eq (n : Nat) (free : Wide) : ∀ (m0 : Nat) (out : (List Int)) (i : Int), it (EmR.no _) (tern_Bits.C n) n (Code.go tern_Bits.code [1, 1, 1, 0, 1, 0, 0]) (blockK 0 (seqK (EmR.no _) (tern_Bits.C n) n (Code.go tern_Bits.code [1, 1, 1, 1]) (bodyK (tern_Bits.C n) f100 tern_Bits.rs))) m0 ⟨[(5, .ptr 5 0 TWide []), (6, .lst (.tip 100006 0) (.int .i64) out), (7, .dat (.int .i64) i)], [(100006, .tok 0), (5, .box 0 false (.dat TWide free))]⟩ = tern_Bits.l0 n free m0 out i
  | 0, _, _ => rfl
  | m0 + 1, out, i =>
    (tern_Bits.l0.step n m0 out i free).trans (congr1 (fun k0 => tern_Bits.s0 n k0 out i free) (funext fun out' => funext fun i' => tern_Bits.l0.eq n free m0 out' i'))
theorem tern_Bits.run0 (n : Nat) (x : pdens tern_Bits.ps) : Vi.run (tern_Bits.C n) n f100 tern_Bits.ps tern_Bits.rs x = tern_Bits.s n (fun (out' : (List Int)) (i' : Int) (free' : Wide) => it (EmR.no _) (tern_Bits.C n) n (Code.go tern_Bits.code [1, 1, 1, 0, 1, 0, 0]) (blockK 0 (seqK (EmR.no _) (tern_Bits.C n) n (Code.go tern_Bits.code [1, 1, 1, 1]) (bodyK (tern_Bits.C n) f100 tern_Bits.rs))) n ⟨[(5, .ptr 5 0 TWide []), (6, .lst (.tip 100006 0) (.int .i64) (out')), (7, .dat (.int .i64) (i'))], [(100006, .tok 0), (5, .box 0 false (.dat TWide (free')))]⟩) x.1 x.2 := by kernel_rfl
theorem tern_Bits.eq (n : Nat) (x : pdens tern_Bits.ps) : Vi.run (tern_Bits.C n) n f100 tern_Bits.ps tern_Bits.rs x = tern_Bits n x.1 x.2 :=
  (tern_Bits.run0 n x).trans (congr1 (fun k0 => tern_Bits.s n k0 x.1 x.2) (funext fun out' => funext fun i' => funext fun free' => tern_Bits.l0.eq n free' n out' i'))
theorem tern_Bits.sound (n : Nat) : SoundE prog 100 (tern_Bits.e n) :=
  soundE_of_run (C := tern_Bits.C n) (n := n) (tern_Bits.ok n) func100 (by kernel_rfl) (by kernel_rfl) (fun x r h => (tern_Bits.eq n x).trans h)

def tern_Fix.rs : List RTy := [.data TTern]
def tern_Fix.ps : List PTy := [.data TTern, .data (.int .i64), .data .bool]
noncomputable def tern_Fix.e (n : Nat) : Ent := ⟨tern_Fix.ps, tern_Fix.rs, fun x => tern_Fix x.1 x.2.1 x.2.2⟩
noncomputable def tern_Fix.C (n : Nat) : Ctx := { tab := tab, fts := fts, pts := pts, Γ := lookO [(88, tern_Clean.e n), (89, wide_Or.e n), (111, wide_Less.e n), (112, wide_Bit.e n)], Γc := lookO [], Γs := lookO [], Γm := lookO [], ntmps := f102.ntmps, keep := Vi.look ([], []) [], pins := [] }
theorem tern_Fix.ok (n : Nat) : CtxOk prog (tern_Fix.C n) := ⟨types, ftsOk_, ptsOk_, (fns_cons (tern_Clean.sound n) (fns_cons (wide_Or.sound n) (fns_cons (wide_Less.sound n) (fns_cons (wide_Bit.sound n) fns_nil)))), cls_nil, sqs_nil, ems_nil, mixed⟩
theorem tern_Fix.eq (n : Nat) (x : pdens tern_Fix.ps) : Vi.run (tern_Fix.C n) n f102 tern_Fix.ps tern_Fix.rs x = tern_Fix x.1 x.2.1 x.2.2 := by kernel_rfl
theorem tern_Fix.sound (n : Nat) : SoundE prog 102 (tern_Fix.e n) :=
  soundE_of_run (C := tern_Fix.C n) (n := n) (tern_Fix.ok n) func102 (by kernel_rfl) (by kernel_rfl) (fun x r h => (tern_Fix.eq n x).trans h)

def carve_Parts_1.es : List Ty := [TCube]
def carve_Parts_1.ps : List PTy := []
def carve_Parts_1.caps : List PTy := [.cptr TCube, .cptr TCube]
noncomputable def carve_Parts_1.e (n : Nat) : Sq := ⟨carve_Parts_1.es, carve_Parts_1.ps, carve_Parts_1.caps, fun x c => carve_Parts_1 n c.1 c.2⟩
noncomputable def carve_Parts_1.C (n : Nat) : Ctx := { tab := tab, fts := fts, pts := pts, Γ := lookO [(53, cube_Meet.e n), (99, cube_Clean.e n), (100, tern_Bits.e n), (101, wide_Has.e n), (102, tern_Fix.e n)], Γc := lookO [], Γs := lookO [], Γm := lookO [], ntmps := f98.ntmps, keep := Vi.look ([], []) [(5, ([0, 4, 27, 28], [4])), (10, ([0, 4, 7, 8, 27, 28, 40, 41, 42], [4, 8]))], pins := [] }
theorem carve_Parts_1.ok (n : Nat) : CtxOk prog (carve_Parts_1.C n) := ⟨types, ftsOk_, ptsOk_, (fns_cons (cube_Meet.sound n) (fns_cons (cube_Clean.sound n) (fns_cons (tern_Bits.sound n) (fns_cons (wide_Has.sound n) (fns_cons (tern_Fix.sound n) fns_nil))))), cls_nil, sqs_nil, ems_nil, mixed⟩
noncomputable def carve_Parts_1.code : Code := bodyOf f98
theorem carve_Parts_1.l1.step (n : Nat) (m0 : Nat) (m1 : Nat) (f : Int) (v27_1 : Cube) (v28_1 : Int) (v40 : (List Int)) (v41 : Int) (v42 : Int) (left_1 : Cube) (t : Tern) : it (EmR.seq carve_Parts_1.es) (carve_Parts_1.C n) n (Code.go carve_Parts_1.code [0, 1, 1, 1, 1, 0, 0, 1, 1, 0, 0, 1, 1, 1, 1, 0, 0]) (blockK 2 (blockK 1 (seqK (EmR.seq carve_Parts_1.es) (carve_Parts_1.C n) n (Code.go carve_Parts_1.code [0, 1, 1, 1, 1, 0, 0, 1, 1, 1]) (loopK (EmR.seq carve_Parts_1.es) (carve_Parts_1.C n) n (Code.go carve_Parts_1.code [0, 1, 1, 1, 1, 0, 0]) (blockK 0 (bodyKQ carve_Parts_1.es)) m0)))) (m1 + 1) ⟨[(0, .yld [TCube]), (4, .ptr 4 0 TCube []), (7, .dat (.int .i64) f), (8, .ptr 8 0 TTern []), (27, .dat TCube v27_1), (28, .dat (.int .i64) v28_1), (40, .lst (.tip 100040 0) (.int .i64) v40), (41, .dat (.int .i64) v41), (42, .dat (.int .i64) v42)], [(100040, .tok 0), (4, .box 0 false (.dat TCube left_1)), (8, .box 0 false (.dat TTern t))]⟩ = carve_Parts_1.s1 n (fun (v42' : Int) (left_1' : Cube) => it (EmR.seq carve_Parts_1.es) (carve_Parts_1.C n) n (Code.go carve_Parts_1.code [0, 1, 1, 1, 1, 0, 0, 1, 1, 0, 0, 1, 1, 1, 1, 0, 0]) (blockK 2 (blockK 1 (seqK (EmR.seq carve_Parts_1.es) (carve_Parts_1.C n) n (Code.go carve_Parts_1.code [0, 1, 1, 1, 1, 0, 0, 1, 1, 1]) (loopK (EmR.seq carve_Parts_1.es) (carve_Parts_1.C n) n (Code.go carve_Parts_1.code [0, 1, 1, 1, 1, 0, 0]) (blockK 0 (bodyKQ carve_Parts_1.es)) m0)))) m1 ⟨[(0, .yld [TCube]), (4, .ptr 4 0 TCube []), (7, .dat (.int .i64) f), (8, .ptr 8 0 TTern []), (27, .dat TCube v27_1), (28, .dat (.int .i64) v28_1), (40, .lst (.tip 100040 0) (.int .i64) v40), (41, .dat (.int .i64) v41), (42, .dat (.int .i64) (v42'))], [(100040, .tok 0), (4, .box 0 false (.dat TCube (left_1'))), (8, .box 0 false (.dat TTern t))]⟩) (fun (v27' : Cube) (v28' : Int) (left' : Cube) => it (EmR.seq carve_Parts_1.es) (carve_Parts_1.C n) n (Code.go carve_Parts_1.code [0, 1, 1, 1, 1, 0, 0]) (blockK 0 (bodyKQ carve_Parts_1.es)) m0 ⟨[(0, .yld [TCube]), (4, .ptr 4 0 TCube []), (27, .dat TCube (v27')), (28, .dat (.int .i64) (v28'))], [(4, .box 0 false (.dat TCube (left')))]⟩) f v27_1 v28_1 v40 v41 v42 left_1 t := by kernel_rfl
theorem carve_Parts_1.l1.eq (n : Nat) (m0 : Nat) (f : Int) (v27_1 : Cube) (v28_1 : Int) (v40 : (List Int)) (v41 : Int) (t : Tern) : ∀ (m1 : Nat) (v42 : Int) (left_1 : Cube), it (EmR.seq carve_Parts_1.es) (carve_Parts_1.C n) n (Code.go carve_Parts_1.code [0, 1, 1, 1, 1, 0, 0, 1, 1, 0, 0, 1, 1, 1, 1, 0, 0]) (blockK 2 (blockK 1 (seqK (EmR.seq carve_Parts_1.es) (carve_Parts_1.C n) n (Code.go carve_Parts_1.code [0, 1, 1, 1, 1, 0, 0, 1, 1, 1]) (loopK (EmR.seq carve_Parts_1.es) (carve_Parts_1.C n) n (Code.go carve_Parts_1.code [0, 1, 1, 1, 1, 0, 0]) (blockK 0 (bodyKQ carve_Parts_1.es)) m0)))) m1 ⟨[(0, .yld [TCube]), (4, .ptr 4 0 TCube []), (7, .dat (.int .i64) f), (8, .ptr 8 0 TTern []), (27, .dat TCube v27_1), (28, .dat (.int .i64) v28_1), (40, .lst (.tip 100040 0) (.int .i64) v40), (41, .dat (.int .i64) v41), (42, .dat (.int .i64) v42)], [(100040, .tok 0), (4, .box 0 false (.dat TCube left_1)), (8, .box 0 false (.dat TTern t))]⟩ = carve_Parts_1.l1 n f v27_1 v28_1 v40 v41 t (fun (v27'' : Cube) (v28'' : Int) (left'' : Cube) => it (EmR.seq carve_Parts_1.es) (carve_Parts_1.C n) n (Code.go carve_Parts_1.code [0, 1, 1, 1, 1, 0, 0]) (blockK 0 (bodyKQ carve_Parts_1.es)) m0 ⟨[(0, .yld [TCube]), (4, .ptr 4 0 TCube []), (27, .dat TCube (v27'')), (28, .dat (.int .i64) (v28''))], [(4, .box 0 false (.dat TCube (left'')))]⟩) m1 v42 left_1
  | 0, _, _ => rfl
  | m1 + 1, v42, left_1 =>
    (carve_Parts_1.l1.step n m0 m1 f v27_1 v28_1 v40 v41 v42 left_1 t).trans (congr2 (fun k1 k0 => carve_Parts_1.s1 n k1 k0 f v27_1 v28_1 v40 v41 v42 left_1 t) (funext fun v42' => funext fun left_1' => carve_Parts_1.l1.eq n m0 f v27_1 v28_1 v40 v41 t m1 v42' left_1') rfl)
theorem carve_Parts_1.l0.step (n : Nat) (m0 : Nat) (v27 : Cube) (v28 : Int) (left : Cube) : it (EmR.seq carve_Parts_1.es) (carve_Parts_1.C n) n (Code.go carve_Parts_1.code [0, 1, 1, 1, 1, 0, 0]) (blockK 0 (bodyKQ carve_Parts_1.es)) (m0 + 1) ⟨[(0, .yld [TCube]), (4, .ptr 4 0 TCube []), (27, .dat TCube v27), (28, .dat (.int .i64) v28)], [(4, .box 0 false (.dat TCube left))]⟩ = carve_Parts_1.s0 n (fun (v28' : Int) (left' : Cube) => it (EmR.seq carve_Parts_1.es) (carve_Parts_1.C n) n (Code.go carve_Parts_1.code [0, 1, 1, 1, 1, 0, 0]) (blockK 0 (bodyKQ carve_Parts_1.es)) m0 ⟨[(0, .yld [TCube]), (4, .ptr 4 0 TCube []), (27, .dat TCube v27), (28, .dat (.int .i64) (v28'))], [(4, .box 0 false (.dat TCube (left')))]⟩) (fun (f' : Int) (v27_1' : Cube) (v28_1' : Int) (v40' : (List Int)) (v41' : Int) (v42' : Int) (left_1' : Cube) (t' : Tern) => it (EmR.seq carve_Parts_1.es) (carve_Parts_1.C n) n (Code.go carve_Parts_1.code [0, 1, 1, 1, 1, 0, 0, 1, 1, 0, 0, 1, 1, 1, 1, 0, 0]) (blockK 2 (blockK 1 (seqK (EmR.seq carve_Parts_1.es) (carve_Parts_1.C n) n (Code.go carve_Parts_1.code [0, 1, 1, 1, 1, 0, 0, 1, 1, 1]) (loopK (EmR.seq carve_Parts_1.es) (carve_Parts_1.C n) n (Code.go carve_Parts_1.code [0, 1, 1, 1, 1, 0, 0]) (blockK 0 (bodyKQ carve_Parts_1.es)) m0)))) n ⟨[(0, .yld [TCube]), (4, .ptr 4 0 TCube []), (7, .dat (.int .i64) (f')), (8, .ptr 8 0 TTern []), (27, .dat TCube (v27_1')), (28, .dat (.int .i64) (v28_1')), (40, .lst (.tip 100040 0) (.int .i64) (v40')), (41, .dat (.int .i64) (v41')), (42, .dat (.int .i64) (v42'))], [(100040, .tok 0), (4, .box 0 false (.dat TCube (left_1'))), (8, .box 0 false (.dat TTern (t')))]⟩) v27 v28 left := by kernel_rfl
theorem carve_Parts_1.l0.eq (n : Nat) (v27 : Cube) : ∀ (m0 : Nat) (v28 : Int) (left : Cube), it (EmR.seq carve_Parts_1.es) (carve_Parts_1.C n) n (Code.go carve_Parts_1.code [0, 1, 1, 1, 1, 0, 0]) (blockK 0 (bodyKQ carve_Parts_1.es)) m0 ⟨[(0, .yld [TCube]), (4, .ptr 4 0 TCube []), (27, .dat TCube v27), (28, .dat (.int .i64) v28)], [(4, .box 0 false (.dat TCube left))]⟩ = carve_Parts_1.l0 n v27 m0 v28 left
  | 0, _, _ => rfl
  | m0 + 1, v28, left =>
    (carve_Parts_1.l0.step n m0 v27 v28 left).trans (congr2 (fun k0 k1 => carve_Parts_1.s0 n k0 k1 v27 v28 left) (funext fun v28' => funext fun left' => carve_Parts_1.l0.eq n v27 m0 v28' left') (funext fun f' => funext fun v27_1' => funext fun v28_1' => funext fun v40' => funext fun v41' => funext fun v42' => funext fun left_1' => funext fun t' => (carve_Parts_1.l1.eq n m0 f' v27_1' v28_1' v40' v41' t' n v42' left_1').trans (congr1 (fun kk => carve_Parts_1.l1 n f' v27_1' v28_1' v40' v41' t' kk n v42' left_1') (funext fun v27'' => funext fun v28'' => funext fun left'' => carve_Parts_1.l0.eq n v27'' m0 v28'' left''))))
theorem carve_Parts_1.run0 (n : Nat) (x : pdens carve_Parts_1.ps) (c : pdens carve_Parts_1.caps) : Vi.runQ (carve_Parts_1.C n) n f98 carve_Parts_1.ps carve_Parts_1.es carve_Parts_1.caps x c = carve_Parts_1.s n (fun (v27' : Cube) (v28' : Int) (left' : Cube) => it (EmR.seq carve_Parts_1.es) (carve_Parts_1.C n) n (Code.go carve_Parts_1.code [0, 1, 1, 1, 1, 0, 0]) (blockK 0 (bodyKQ carve_Parts_1.es)) n ⟨[(0, .yld [TCube]), (4, .ptr 4 0 TCube []), (27, .dat TCube (v27')), (28, .dat (.int .i64) (v28'))], [(4, .box 0 false (.dat TCube (left')))]⟩) c.1 c.2 := by kernel_rfl
theorem carve_Parts_1.eq (n : Nat) (x : pdens carve_Parts_1.ps) (c : pdens carve_Parts_1.caps) : Vi.runQ (carve_Parts_1.C n) n f98 carve_Parts_1.ps carve_Parts_1.es carve_Parts_1.caps x c = carve_Parts_1 n c.1 c.2 :=
  (carve_Parts_1.run0 n x c).trans (congr1 (fun k0 => carve_Parts_1.s n k0 c.1 c.2) (funext fun v27' => funext fun v28' => funext fun left' => carve_Parts_1.l0.eq n v27' n v28' left'))
theorem carve_Parts_1.sound (n : Nat) : SoundQ prog 98 (carve_Parts_1.e n) :=
  soundQ_of_run (C := carve_Parts_1.C n) (n := n) (carve_Parts_1.ok n) func98 (by kernel_rfl) (by kernel_rfl) (fun x c r h => (carve_Parts_1.eq n x c).trans h)

def carve_Parts.rs : List RTy := [.seqr [TCube]]
def carve_Parts.ps : List PTy := [.data TCube, .data TCube]
noncomputable def carve_Parts.e (n : Nat) : Ent := ⟨carve_Parts.ps, carve_Parts.rs, fun x => carve_Parts n x.1 x.2⟩
noncomputable def carve_Parts.C (n : Nat) : Ctx := { tab := tab, fts := fts, pts := pts, Γ := lookO [], Γc := lookO [], Γs := lookO [(98, carve_Parts_1.e n)], Γm := lookO [], ntmps := f82.ntmps, keep := Vi.look ([], []) [], pins := [] }
theorem carve_Parts.ok (n : Nat) : CtxOk prog (carve_Parts.C n) := ⟨types, ftsOk_, ptsOk_, fns_nil, cls_nil, (sqs_cons (carve_Parts_1.sound n) sqs_nil), ems_nil, mixed⟩
theorem carve_Parts.eq (n : Nat) (x : pdens carve_Parts.ps) : Vi.run (carve_Parts.C n) n f82 carve_Parts.ps carve_Parts.rs x = carve_Parts n x.1 x.2 := by kernel_rfl
theorem carve_Parts.sound (n : Nat) : SoundE prog 82 (carve_Parts.e n) :=
  soundE_of_run (C := carve_Parts.C n) (n := n) (carve_Parts.ok n) func82 (by kernel_rfl) (by kernel_rfl) (fun x r h => (carve_Parts.eq n x).trans h)

def cover_look_at.rs : List RTy := [.data THeader, .data .bool, .data .bool]
def cover_look_at.τ : Ty := TLook
def cover_look_at.ps : List PTy := [.data TCube, .data (.slc TCube)]
noncomputable def cover_look_at.e (n k : Nat) : Em := ⟨cover_look_at.τ, cover_look_at.ps, cover_look_at.rs, fun y x => cover_look_at n k y x.1 x.2⟩
noncomputable def cover_look_at.C (n k : Nat) : Ctx := { tab := tab, fts := fts, pts := pts, Γ := lookO [(80, cover_among.e n), (81, cube_Pick.e n), (82, carve_Parts.e n)], Γc := lookO [], Γs := lookO [], Γm := lookO [(65, cover_look_at.e n k), (79, cover_purse_pay.e n)], ntmps := f65.ntmps, keep := Vi.look ([], []) [(100011, ([0, 3, 5, 6, 10, 11, 12, 13], [0, 3, 5, 6, 10, 11, 12, 13]))], pins := [0] }
theorem cover_look_at.ok (n k : Nat) (hrec : SoundM prog 65 (cover_look_at.e n k)) : CtxOk prog (cover_look_at.C n k) := ⟨types, ftsOk_, ptsOk_, (fns_cons (cover_among.sound n) (fns_cons (cube_Pick.sound n) (fns_cons (carve_Parts.sound n) fns_nil))), cls_nil, sqs_nil, (ems_cons hrec (ems_cons (cover_purse_pay.sound n) ems_nil)), mixed⟩
noncomputable def cover_look_at.code : Code := bodyOf f65
theorem cover_look_at.l0.stepz (n k : Nat) (s_1 : Purse) (l_1 : (List Cube)) (v6 : Header) (i : Int) (h : Header) (found : Bool) (enough : Bool) : itS (EmR.no _) (cover_look_at.C n k) n (Code.go cover_look_at.code [1, 0, 1, 1, 1, 1, 1, 1, 0, 1, 0]) [TCube] [(0, .ptr 0 0 TLook []), (3, .ptr 3 0 .unit []), (5, .ptr 5 0 (.slc TCube) []), (6, .ptr 6 0 THeader []), (10, .ptr 10 0 (.int .i64) []), (11, .ptr 11 0 THeader []), (12, .ptr 12 0 .bool []), (13, .ptr 13 0 .bool [])] (blockK 1 (seqK (EmR.no _) (cover_look_at.C n k) n (Code.go cover_look_at.code [1, 0, 1, 1, 1, 1, 1, 1, 1]) (bodyKM (cover_look_at.C n k) f65 cover_look_at.τ cover_look_at.rs))) [] [(0, .box 0 false (.dat TLook s_1)), (3, .box 0 false (.ptr 0 0 TLook [])), (5, .box 0 false (.dat (.slc TCube) l_1)), (6, .box 0 false (.dat THeader v6)), (10, .box 0 false (.dat (.int .i64) i)), (11, .box 0 false (.dat THeader h)), (12, .box 0 false (.dat .bool found)), (13, .box 0 false (.dat .bool enough))] = cover_look_at.z0 n (cover_look_at n k) s_1 l_1 v6 i h found enough := by kernel_rfl
theorem cover_look_at.l0.step (n k : Nat) (xs : (List Cube)) (s_1 : Purse) (l_1 : (List Cube)) (v6 : Header) (i : Int) (h : Header) (found : Bool) (enough : Bool) (x : Cube) : itS (EmR.no _) (cover_look_at.C n k) n (Code.go cover_look_at.code [1, 0, 1, 1, 1, 1, 1, 1, 0, 1, 0]) [TCube] [(0, .ptr 0 0 TLook []), (3, .ptr 3 0 .unit []), (5, .ptr 5 0 (.slc TCube) []), (6, .ptr 6 0 THeader []), (10, .ptr 10 0 (.int .i64) []), (11, .ptr 11 0 THeader []), (12, .ptr 12 0 .bool []), (13, .ptr 13 0 .bool [])] (blockK 1 (seqK (EmR.no _) (cover_look_at.C n k) n (Code.go cover_look_at.code [1, 0, 1, 1, 1, 1, 1, 1, 1]) (bodyKM (cover_look_at.C n k) f65 cover_look_at.τ cover_look_at.rs))) (x :: xs) [(0, .box 0 false (.dat TLook s_1)), (3, .box 0 false (.ptr 0 0 TLook [])), (5, .box 0 false (.dat (.slc TCube) l_1)), (6, .box 0 false (.dat THeader v6)), (10, .box 0 false (.dat (.int .i64) i)), (11, .box 0 false (.dat THeader h)), (12, .box 0 false (.dat .bool found)), (13, .box 0 false (.dat .bool enough))] = cover_look_at.s0 n (cover_look_at n k) (fun (s_1' : Purse) (h' : Header) (found' : Bool) (enough' : Bool) => itS (EmR.no _) (cover_look_at.C n k) n (Code.go cover_look_at.code [1, 0, 1, 1, 1, 1, 1, 1, 0, 1, 0]) [TCube] [(0, .ptr 0 0 TLook []), (3, .ptr 3 0 .unit []), (5, .ptr 5 0 (.slc TCube) []), (6, .ptr 6 0 THeader []), (10, .ptr 10 0 (.int .i64) []), (11, .ptr 11 0 THeader []), (12, .ptr 12 0 .bool []), (13, .ptr 13 0 .bool [])] (blockK 1 (seqK (EmR.no _) (cover_look_at.C n k) n (Code.go cover_look_at.code [1, 0, 1, 1, 1, 1, 1, 1, 1]) (bodyKM (cover_look_at.C n k) f65 cover_look_at.τ cover_look_at.rs))) xs [(0, .box 0 false (.dat TLook (s_1'))), (3, .box 0 false (.ptr 0 0 TLook [])), (5, .box 0 false (.dat (.slc TCube) l_1)), (6, .box 0 false (.dat THeader v6)), (10, .box 0 false (.dat (.int .i64) i)), (11, .box 0 false (.dat THeader (h'))), (12, .box 0 false (.dat .bool (found'))), (13, .box 0 false (.dat .bool (enough')))]) s_1 l_1 v6 i h found enough x := by kernel_rfl
theorem cover_look_at.l0.eq (n k : Nat) (l_1 : (List Cube)) (v6 : Header) (i : Int) : ∀ (xs : (List Cube)) (s_1 : Purse) (h : Header) (found : Bool) (enough : Bool), itS (EmR.no _) (cover_look_at.C n k) n (Code.go cover_look_at.code [1, 0, 1, 1, 1, 1, 1, 1, 0, 1, 0]) [TCube] [(0, .ptr 0 0 TLook []), (3, .ptr 3 0 .unit []), (5, .ptr 5 0 (.slc TCube) []), (6, .ptr 6 0 THeader []), (10, .ptr 10 0 (.int .i64) []), (11, .ptr 11 0 THeader []), (12, .ptr 12 0 .bool []), (13, .ptr 13 0 .bool [])] (blockK 1 (seqK (EmR.no _) (cover_look_at.C n k) n (Code.go cover_look_at.code [1, 0, 1, 1, 1, 1, 1, 1, 1]) (bodyKM (cover_look_at.C n k) f65 cover_look_at.τ cover_look_at.rs))) xs [(0, .box 0 false (.dat TLook s_1)), (3, .box 0 false (.ptr 0 0 TLook [])), (5, .box 0 false (.dat (.slc TCube) l_1)), (6, .box 0 false (.dat THeader v6)), (10, .box 0 false (.dat (.int .i64) i)), (11, .box 0 false (.dat THeader h)), (12, .box 0 false (.dat .bool found)), (13, .box 0 false (.dat .bool enough))] = cover_look_at.l0 n (cover_look_at n k) l_1 v6 i xs s_1 h found enough
  | [], s_1, h, found, enough => cover_look_at.l0.stepz n k s_1 l_1 v6 i h found enough
  | x :: xs, s_1, h, found, enough => (cover_look_at.l0.step n k xs s_1 l_1 v6 i h found enough x).trans (congr1 (fun k0 => cover_look_at.s0 n (cover_look_at n k) k0 s_1 l_1 v6 i h found enough x) (funext fun s_1' => funext fun h' => funext fun found' => funext fun enough' => cover_look_at.l0.eq n k l_1 v6 i xs s_1' h' found' enough'))
theorem cover_look_at.run0 (n k : Nat) (y : Ty.den cover_look_at.τ) (x : pdens cover_look_at.ps) : Vi.runM (cover_look_at.C n k) n f65 cover_look_at.τ cover_look_at.ps cover_look_at.rs y x = cover_look_at.s n (cover_look_at n k) (fun (xs' : (List Cube)) (s_1' : Purse) (l_1' : (List Cube)) (v6' : Header) (i' : Int) (h' : Header) (found' : Bool) (enough' : Bool) => itS (EmR.no _) (cover_look_at.C n k) n (Code.go cover_look_at.code [1, 0, 1, 1, 1, 1, 1, 1, 0, 1, 0]) [TCube] [(0, .ptr 0 0 TLook []), (3, .ptr 3 0 .unit []), (5, .ptr 5 0 (.slc TCube) []), (6, .ptr 6 0 THeader []), (10, .ptr 10 0 (.int .i64) []), (11, .ptr 11 0 THeader []), (12, .ptr 12 0 .bool []), (13, .ptr 13 0 .bool [])] (blockK 1 (seqK (EmR.no _) (cover_look_at.C n k) n (Code.go cover_look_at.code [1, 0, 1, 1, 1, 1, 1, 1, 1]) (bodyKM (cover_look_at.C n k) f65 cover_look_at.τ cover_look_at.rs))) xs' [(0, .box 0 false (.dat TLook (s_1'))), (3, .box 0 false (.ptr 0 0 TLook [])), (5, .box 0 false (.dat (.slc TCube) (l_1'))), (6, .box 0 false (.dat THeader (v6'))), (10, .box 0 false (.dat (.int .i64) (i'))), (11, .box 0 false (.dat THeader (h'))), (12, .box 0 false (.dat .bool (found'))), (13, .box 0 false (.dat .bool (enough')))]) y x.1 x.2 := by kernel_rfl
theorem cover_look_at.eq (n k : Nat) (y : Ty.den cover_look_at.τ) (x : pdens cover_look_at.ps) : Vi.runM (cover_look_at.C n k) n f65 cover_look_at.τ cover_look_at.ps cover_look_at.rs y x = cover_look_at n (k + 1) y x.1 x.2 :=
  (cover_look_at.run0 n k y x).trans (congr1 (fun k0 => cover_look_at.s n (cover_look_at n k) k0 y x.1 x.2) (funext fun xs' => funext fun s_1' => funext fun l_1' => funext fun v6' => funext fun i' => funext fun h' => funext fun found' => funext fun enough' => cover_look_at.l0.eq n k l_1' v6' i' xs' s_1' h' found' enough'))
theorem cover_look_at.sound (n : Nat) : ∀ k, SoundM prog 65 (cover_look_at.e n k)
  | 0 => soundM_none func65 (by kernel_rfl) (by kernel_rfl) (fun _ _ => rfl)
  | k + 1 => soundM_of_run (C := cover_look_at.C n k) (n := n) (cover_look_at.ok n k (cover_look_at.sound n k)) func65 (by kernel_rfl) (by kernel_rfl) (fun y x r h => (cover_look_at.eq n k y x).trans h)

def cover_Look.rs : List RTy := [.data THeader, .data .bool, .data (.int .i64)]
def cover_Look.ps : List PTy := [.data TCube, .data (.slc TCube), .data (.int .i64)]
noncomputable def cover_Look.e (n : Nat) : Ent := ⟨cover_Look.ps, cover_Look.rs, fun x => cover_Look n x.1 x.2.1 x.2.2⟩
noncomputable def cover_Look.C (n : Nat) : Ctx := { tab := tab, fts := fts, pts := pts, Γ := lookO [], Γc := lookO [], Γs := lookO [], Γm := lookO [(65, cover_look_at.e n n)], ntmps := f44.ntmps, keep := Vi.look ([], []) [], pins := [] }
theorem cover_Look.ok (n : Nat) : CtxOk prog (cover_Look.C n) := ⟨types, ftsOk_, ptsOk_, fns_nil, cls_nil, sqs_nil, (ems_cons (cover_look_at.sound n n) ems_nil), mixed⟩
theorem cover_Look.eq (n : Nat) (x : pdens cover_Look.ps) : Vi.run (cover_Look.C n) n f44 cover_Look.ps cover_Look.rs x = cover_Look n x.1 x.2.1 x.2.2 := by kernel_rfl
theorem cover_Look.sound (n : Nat) : SoundE prog 44 (cover_Look.e n) :=
  soundE_of_run (C := cover_Look.C n) (n := n) (cover_Look.ok n) func44 (by kernel_rfl) (by kernel_rfl) (fun x r h => (cover_Look.eq n x).trans h)

def slices_Clone_Rule.rs : List RTy := [.own TRule]
def slices_Clone_Rule.ps : List PTy := [.data (.slc TRule)]
noncomputable def slices_Clone_Rule.e (n : Nat) : Ent := ⟨slices_Clone_Rule.ps, slices_Clone_Rule.rs, fun x => slices_Clone_Rule x⟩
noncomputable def slices_Clone_Rule.C (n : Nat) : Ctx := { tab := tab, fts := fts, pts := pts, Γ := lookO [], Γc := lookO [], Γs := lookO [], Γm := lookO [], ntmps := f69.ntmps, keep := Vi.look ([], []) [], pins := [], owns := [7] }
theorem slices_Clone_Rule.ok (n : Nat) : CtxOk prog (slices_Clone_Rule.C n) := ⟨types, ftsOk_, ptsOk_, fns_nil, cls_nil, sqs_nil, ems_nil, mixed⟩
theorem slices_Clone_Rule.sound (n : Nat) : SoundE prog 69 (slices_Clone_Rule.e n) :=
  soundE_of_nil (C := slices_Clone_Rule.C n) (n := n) (slices_Clone_Rule.ok n) func69 (by kernel_rfl) (by kernel_rfl) (by kernel_rfl)
    (fun r h => (show runS (slices_Clone_Rule.C n) n f69 [(0, .nil)] slices_Clone_Rule.rs = slices_Clone_Rule [] by kernel_rfl).trans h)
    (fun x r h => (show runS (slices_Clone_Rule.C n) n f69 [(0, .lst .nn TRule x)] slices_Clone_Rule.rs = slices_Clone_Rule x by kernel_rfl).trans h)

def slices_Clone_Atom.rs : List RTy := [.own TAtom]
def slices_Clone_Atom.ps : List PTy := [.data (.slc TAtom)]
noncomputable def slices_Clone_Atom.e (n : Nat) : Ent := ⟨slices_Clone_Atom.ps, slices_Clone_Atom.rs, fun x => slices_Clone_Atom x⟩
noncomputable def slices_Clone_Atom.C (n : Nat) : Ctx := { tab := tab, fts := fts, pts := pts, Γ := lookO [], Γc := lookO [], Γs := lookO [], Γm := lookO [], ntmps := f70.ntmps, keep := Vi.look ([], []) [], pins := [], owns := [7] }
theorem slices_Clone_Atom.ok (n : Nat) : CtxOk prog (slices_Clone_Atom.C n) := ⟨types, ftsOk_, ptsOk_, fns_nil, cls_nil, sqs_nil, ems_nil, mixed⟩
theorem slices_Clone_Atom.sound (n : Nat) : SoundE prog 70 (slices_Clone_Atom.e n) :=
  soundE_of_nil (C := slices_Clone_Atom.C n) (n := n) (slices_Clone_Atom.ok n) func70 (by kernel_rfl) (by kernel_rfl) (by kernel_rfl)
    (fun r h => (show runS (slices_Clone_Atom.C n) n f70 [(0, .nil)] slices_Clone_Atom.rs = slices_Clone_Atom [] by kernel_rfl).trans h)
    (fun x r h => (show runS (slices_Clone_Atom.C n) n f70 [(0, .lst .nn TAtom x)] slices_Clone_Atom.rs = slices_Clone_Atom x by kernel_rfl).trans h)

def shadow_copies.rs : List RTy := [.fresh TRule]
def shadow_copies.ps : List PTy := [.data (.slc TRule)]
noncomputable def shadow_copies.e (n : Nat) : Ent := ⟨shadow_copies.ps, shadow_copies.rs, fun x => shadow_copies n x⟩
noncomputable def shadow_copies.C (n : Nat) : Ctx := { tab := tab, fts := fts, pts := pts, Γ := lookO [(69, slices_Clone_Rule.e n), (70, slices_Clone_Atom.e n)], Γc := lookO [], Γs := lookO [], Γm := lookO [], ntmps := f50.ntmps, keep := Vi.look ([], []) [(3, ([3, 8, 9], [6]))], pins := [] }
theorem shadow_copies.ok (n : Nat) : CtxOk prog (shadow_copies.C n) := ⟨types, ftsOk_, ptsOk_, (fns_cons (slices_Clone_Rule.sound n) (fns_cons (slices_Clone_Atom.sound n) fns_nil)), cls_nil, sqs_nil, ems_nil, mixed⟩
noncomputable def shadow_copies.code : Code := bodyOf f50
theorem shadow_copies.l0.step (n : Nat) (m0 : Nat) (v8 : Int) (v9 : Int) (v6 : (List Rule)) : it (EmR.no _) (shadow_copies.C n) n (Code.go shadow_copies.code [1, 1, 0, 1, 0, 0]) (blockK 0 (seqK (EmR.no _) (shadow_copies.C n) n (Code.go shadow_copies.code [1, 1, 1]) (bodyK (shadow_copies.C n) f50 shadow_copies.rs))) (m0 + 1) ⟨[(3, .vec 6 0 TRule), (8, .dat (.int .i64) v8), (9, .dat (.int .i64) v9)], [(6, .box 0 false (.row TRule v6))]⟩ = shadow_copies.s0 n (fun (v9' : Int) (v6' : (List Rule)) => it (EmR.no _) (shadow_copies.C n) n (Code.go shadow_copies.code [1, 1, 0, 1, 0, 0]) (blockK 0 (seqK (EmR.no _) (shadow_copies.C n) n (Code.go shadow_copies.code [1, 1, 1]) (bodyK (shadow_copies.C n) f50 shadow_copies.rs))) m0 ⟨[(3, .vec 6 0 TRule), (8, .dat (.int .i64) v8), (9, .dat (.int .i64) (v9'))], [(6, .box 0 false (.row TRule (v6')))]⟩) v8 v9 v6 := by kernel_rfl
theorem shadow_copies.l0.eq (n : Nat) (v8 : Int) : ∀ (m0 : Nat) (v9 : Int) (v6 : (List Rule)), it (EmR.no _) (shadow_copies.C n) n (Code.go shadow_copies.code [1, 1, 0, 1, 0, 0]) (blockK 0 (seqK (EmR.no _) (shadow_copies.C n) n (Code.go shadow_copies.code [1, 1, 1]) (bodyK (shadow_copies.C n) f50 shadow_copies.rs))) m0 ⟨[(3, .vec 6 0 TRule), (8, .dat (.int .i64) v8), (9, .dat (.int .i64) v9)], [(6, .box 0 false (.row TRule v6))]⟩ = shadow_copies.l0 n v8 m0 v9 v6
  | 0, _, _ => rfl
  | m0 + 1, v9, v6 =>
    (shadow_copies.l0.step n m0 v8 v9 v6).trans (congr1 (fun k0 => shadow_copies.s0 n k0 v8 v9 v6) (funext fun v9' => funext fun v6' => shadow_copies.l0.eq n v8 m0 v9' v6'))
theorem shadow_copies.run0 (n : Nat) (x : pdens shadow_copies.ps) : Vi.run (shadow_copies.C n) n f50 shadow_copies.ps shadow_copies.rs x = shadow_copies.s n (fun (v8' : Int) (v9' : Int) (v6' : (List Rule)) => it (EmR.no _) (shadow_copies.C n) n (Code.go shadow_copies.code [1, 1, 0, 1, 0, 0]) (blockK 0 (seqK (EmR.no _) (shadow_copies.C n) n (Code.go shadow_copies.code [1, 1, 1]) (bodyK (shadow_copies.C n) f50 shadow_copies.rs))) n ⟨[(3, .vec 6 0 TRule), (8, .dat (.int .i64) (v8')), (9, .dat (.int .i64) (v9'))], [(6, .box 0 false (.row TRule (v6')))]⟩) x := by kernel_rfl
theorem shadow_copies.eq (n : Nat) (x : pdens shadow_copies.ps) : Vi.run (shadow_copies.C n) n f50 shadow_copies.ps shadow_copies.rs x = shadow_copies n x :=
  (shadow_copies.run0 n x).trans (congr1 (fun k0 => shadow_copies.s n k0 x) (funext fun v8' => funext fun v9' => funext fun v6' => shadow_copies.l0.eq n v8' n v9' v6'))
theorem shadow_copies.sound (n : Nat) : SoundE prog 50 (shadow_copies.e n) :=
  soundE_of_run (C := shadow_copies.C n) (n := n) (shadow_copies.ok n) func50 (by kernel_rfl) (by kernel_rfl) (fun x r h => (shadow_copies.eq n x).trans h)

def shadow_Drop.rs : List RTy := [.fresh TRule, .data (.int .i64)]
def shadow_Drop.ps : List PTy := [.data (.slc TRule), .data (.int .i64)]
noncomputable def shadow_Drop.e (n : Nat) : Ent := ⟨shadow_Drop.ps, shadow_Drop.rs, fun x => shadow_Drop n x.1 x.2⟩
noncomputable def shadow_Drop.C (n : Nat) : Ctx := { tab := tab, fts := fts, pts := pts, Γ := lookO [(44, cover_Look.e n), (50, shadow_copies.e n)], Γc := lookO [], Γs := lookO [], Γm := lookO [], ntmps := f18.ntmps, keep := Vi.look ([], []) [(4, ([1, 6, 7, 13, 14, 15], []))], pins := [] }
theorem shadow_Drop.ok (n : Nat) : CtxOk prog (shadow_Drop.C n) := ⟨types, ftsOk_, ptsOk_, (fns_cons (cover_Look.sound n) (fns_cons (shadow_copies.sound n) fns_nil)), cls_nil, sqs_nil, ems_nil, mixed⟩
noncomputable def shadow_Drop.code : Code := bodyOf f18
theorem shadow_Drop.l0.step (n : Nat) (m0 : Nat) (most_1 : Int) (kept : (List Rule)) (cubes : (List Cube)) (v13 : (List Rule)) (v14 : Int) (v15 : Int) : it (EmR.no _) (shadow_Drop.C n) n (Code.go shadow_Drop.code [1, 0, 1, 1, 1, 0, 1, 0, 0]) (blockK 0 (seqK (EmR.no _) (shadow_Drop.C n) n (Code.go shadow_Drop.code [1, 0, 1, 1, 1, 1]) (bodyK (shadow_Drop.C n) f18 shadow_Drop.rs))) (m0 + 1) ⟨[(1, .dat (.int .i64) most_1), (6, .lst (.tip 100006 0) TRule kept), (7, .lst (.tip 100007 0) TCube cubes), (13, .dat (.slc TRule) v13), (14, .dat (.int .i64) v14), (15, .dat (.int .i64) v15)], [(100006, .tok 0), (100007, .tok 0)]⟩ = shadow_Drop.s0 n (fun (kept' : (List Rule)) (cubes' : (List Cube)) (v15' : Int) => it (EmR.no _) (shadow_Drop.C n) n (Code.go shadow_Drop.code [1, 0, 1, 1, 1, 0, 1, 0, 0]) (blockK 0 (seqK (EmR.no _) (shadow_Drop.C n) n (Code.go shadow_Drop.code [1, 0, 1, 1, 1, 1]) (bodyK (shadow_Drop.C n) f18 shadow_Drop.rs))) m0 ⟨[(1, .dat (.int .i64) most_1), (6, .lst (.tip 100006 0) TRule (kept')), (7, .lst (.tip 100007 0) TCube (cubes')), (13, .dat (.slc TRule) v13), (14, .dat (.int .i64) v14), (15, .dat (.int .i64) (v15'))], [(100006, .tok 0), (100007, .tok 0)]⟩) most_1 kept cubes v13 v14 v15 := by kernel_rfl
theorem shadow_Drop.l0.eq (n : Nat) (most_1 : Int) (v13 : (List Rule)) (v14 : Int) : ∀ (m0 : Nat) (kept : (List Rule)) (cubes : (List Cube)) (v15 : Int), it (EmR.no _) (shadow_Drop.C n) n (Code.go shadow_Drop.code [1, 0, 1, 1, 1, 0, 1, 0, 0]) (blockK 0 (seqK (EmR.no _) (shadow_Drop.C n) n (Code.go shadow_Drop.code [1, 0, 1, 1, 1, 1]) (bodyK (shadow_Drop.C n) f18 shadow_Drop.rs))) m0 ⟨[(1, .dat (.int .i64) most_1), (6, .lst (.tip 100006 0) TRule kept), (7, .lst (.tip 100007 0) TCube cubes), (13, .dat (.slc TRule) v13), (14, .dat (.int .i64) v14), (15, .dat (.int .i64) v15)], [(100006, .tok 0), (100007, .tok 0)]⟩ = shadow_Drop.l0 n most_1 v13 v14 m0 kept cubes v15
  | 0, _, _, _ => rfl
  | m0 + 1, kept, cubes, v15 =>
    (shadow_Drop.l0.step n m0 most_1 kept cubes v13 v14 v15).trans (congr1 (fun k0 => shadow_Drop.s0 n k0 most_1 kept cubes v13 v14 v15) (funext fun kept' => funext fun cubes' => funext fun v15' => shadow_Drop.l0.eq n most_1 v13 v14 m0 kept' cubes' v15'))
theorem shadow_Drop.run0 (n : Nat) (x : pdens shadow_Drop.ps) : Vi.run (shadow_Drop.C n) n f18 shadow_Drop.ps shadow_Drop.rs x = shadow_Drop.s n (fun (most_1' : Int) (kept' : (List Rule)) (cubes' : (List Cube)) (v13' : (List Rule)) (v14' : Int) (v15' : Int) => it (EmR.no _) (shadow_Drop.C n) n (Code.go shadow_Drop.code [1, 0, 1, 1, 1, 0, 1, 0, 0]) (blockK 0 (seqK (EmR.no _) (shadow_Drop.C n) n (Code.go shadow_Drop.code [1, 0, 1, 1, 1, 1]) (bodyK (shadow_Drop.C n) f18 shadow_Drop.rs))) n ⟨[(1, .dat (.int .i64) (most_1')), (6, .lst (.tip 100006 0) TRule (kept')), (7, .lst (.tip 100007 0) TCube (cubes')), (13, .dat (.slc TRule) (v13')), (14, .dat (.int .i64) (v14')), (15, .dat (.int .i64) (v15'))], [(100006, .tok 0), (100007, .tok 0)]⟩) x.1 x.2 := by kernel_rfl
theorem shadow_Drop.eq (n : Nat) (x : pdens shadow_Drop.ps) : Vi.run (shadow_Drop.C n) n f18 shadow_Drop.ps shadow_Drop.rs x = shadow_Drop n x.1 x.2 :=
  (shadow_Drop.run0 n x).trans (congr1 (fun k0 => shadow_Drop.s n k0 x.1 x.2) (funext fun most_1' => funext fun kept' => funext fun cubes' => funext fun v13' => funext fun v14' => funext fun v15' => shadow_Drop.l0.eq n most_1' v13' v14' n kept' cubes' v15'))
theorem shadow_Drop.sound (n : Nat) : SoundE prog 18 (shadow_Drop.e n) :=
  soundE_of_run (C := shadow_Drop.C n) (n := n) (shadow_Drop.ok n) func18 (by kernel_rfl) (by kernel_rfl) (fun x r h => (shadow_Drop.eq n x).trans h)

def shadow_Cubes.rs : List RTy := [.fresh TCube]
def shadow_Cubes.ps : List PTy := [.data (.slc TRule)]
noncomputable def shadow_Cubes.e (n : Nat) : Ent := ⟨shadow_Cubes.ps, shadow_Cubes.rs, fun x => shadow_Cubes n x⟩
noncomputable def shadow_Cubes.C (n : Nat) : Ctx := { tab := tab, fts := fts, pts := pts, Γ := lookO [], Γc := lookO [], Γs := lookO [], Γm := lookO [], ntmps := f42.ntmps, keep := Vi.look ([], []) [(3, ([3, 9, 10, 11], [8]))], pins := [] }
theorem shadow_Cubes.ok (n : Nat) : CtxOk prog (shadow_Cubes.C n) := ⟨types, ftsOk_, ptsOk_, fns_nil, cls_nil, sqs_nil, ems_nil, mixed⟩
noncomputable def shadow_Cubes.code : Code := bodyOf f42
theorem shadow_Cubes.l0.step (n : Nat) (m0 : Nat) (v9 : (List Rule)) (v10 : Int) (v11 : Int) (v8 : (List Cube)) : it (EmR.no _) (shadow_Cubes.C n) n (Code.go shadow_Cubes.code [1, 1, 0, 1, 0, 0]) (blockK 0 (seqK (EmR.no _) (shadow_Cubes.C n) n (Code.go shadow_Cubes.code [1, 1, 1]) (bodyK (shadow_Cubes.C n) f42 shadow_Cubes.rs))) (m0 + 1) ⟨[(3, .vec 8 0 TCube), (9, .dat (.slc TRule) v9), (10, .dat (.int .i64) v10), (11, .dat (.int .i64) v11)], [(8, .box 0 false (.row TCube v8))]⟩ = shadow_Cubes.s0 n (fun (v11' : Int) (v8' : (List Cube)) => it (EmR.no _) (shadow_Cubes.C n) n (Code.go shadow_Cubes.code [1, 1, 0, 1, 0, 0]) (blockK 0 (seqK (EmR.no _) (shadow_Cubes.C n) n (Code.go shadow_Cubes.code [1, 1, 1]) (bodyK (shadow_Cubes.C n) f42 shadow_Cubes.rs))) m0 ⟨[(3, .vec 8 0 TCube), (9, .dat (.slc TRule) v9), (10, .dat (.int .i64) v10), (11, .dat (.int .i64) (v11'))], [(8, .box 0 false (.row TCube (v8')))]⟩) v9 v10 v11 v8 := by kernel_rfl
theorem shadow_Cubes.l0.eq (n : Nat) (v9 : (List Rule)) (v10 : Int) : ∀ (m0 : Nat) (v11 : Int) (v8 : (List Cube)), it (EmR.no _) (shadow_Cubes.C n) n (Code.go shadow_Cubes.code [1, 1, 0, 1, 0, 0]) (blockK 0 (seqK (EmR.no _) (shadow_Cubes.C n) n (Code.go shadow_Cubes.code [1, 1, 1]) (bodyK (shadow_Cubes.C n) f42 shadow_Cubes.rs))) m0 ⟨[(3, .vec 8 0 TCube), (9, .dat (.slc TRule) v9), (10, .dat (.int .i64) v10), (11, .dat (.int .i64) v11)], [(8, .box 0 false (.row TCube v8))]⟩ = shadow_Cubes.l0 n v9 v10 m0 v11 v8
  | 0, _, _ => rfl
  | m0 + 1, v11, v8 =>
    (shadow_Cubes.l0.step n m0 v9 v10 v11 v8).trans (congr1 (fun k0 => shadow_Cubes.s0 n k0 v9 v10 v11 v8) (funext fun v11' => funext fun v8' => shadow_Cubes.l0.eq n v9 v10 m0 v11' v8'))
theorem shadow_Cubes.run0 (n : Nat) (x : pdens shadow_Cubes.ps) : Vi.run (shadow_Cubes.C n) n f42 shadow_Cubes.ps shadow_Cubes.rs x = shadow_Cubes.s n (fun (v9' : (List Rule)) (v10' : Int) (v11' : Int) (v8' : (List Cube)) => it (EmR.no _) (shadow_Cubes.C n) n (Code.go shadow_Cubes.code [1, 1, 0, 1, 0, 0]) (blockK 0 (seqK (EmR.no _) (shadow_Cubes.C n) n (Code.go shadow_Cubes.code [1, 1, 1]) (bodyK (shadow_Cubes.C n) f42 shadow_Cubes.rs))) n ⟨[(3, .vec 8 0 TCube), (9, .dat (.slc TRule) (v9')), (10, .dat (.int .i64) (v10')), (11, .dat (.int .i64) (v11'))], [(8, .box 0 false (.row TCube (v8')))]⟩) x := by kernel_rfl
theorem shadow_Cubes.eq (n : Nat) (x : pdens shadow_Cubes.ps) : Vi.run (shadow_Cubes.C n) n f42 shadow_Cubes.ps shadow_Cubes.rs x = shadow_Cubes n x :=
  (shadow_Cubes.run0 n x).trans (congr1 (fun k0 => shadow_Cubes.s n k0 x) (funext fun v9' => funext fun v10' => funext fun v11' => funext fun v8' => shadow_Cubes.l0.eq n v9' v10' n v11' v8'))
theorem shadow_Cubes.sound (n : Nat) : SoundE prog 42 (shadow_Cubes.e n) :=
  soundE_of_run (C := shadow_Cubes.C n) (n := n) (shadow_Cubes.ok n) func42 (by kernel_rfl) (by kernel_rfl) (fun x r h => (shadow_Cubes.eq n x).trans h)

def shadow_Look.rs : List RTy := [.data THeader, .data .bool, .data (.int .i64)]
def shadow_Look.ps : List PTy := [.data (.slc TRule), .data (.int .i64), .data (.int .i64)]
noncomputable def shadow_Look.e (n : Nat) : Ent := ⟨shadow_Look.ps, shadow_Look.rs, fun x => shadow_Look n x.1 x.2.1 x.2.2⟩
noncomputable def shadow_Look.C (n : Nat) : Ctx := { tab := tab, fts := fts, pts := pts, Γ := lookO [(42, shadow_Cubes.e n), (44, cover_Look.e n)], Γc := lookO [], Γs := lookO [], Γm := lookO [], ntmps := f14.ntmps, keep := Vi.look ([], []) [], pins := [] }
theorem shadow_Look.ok (n : Nat) : CtxOk prog (shadow_Look.C n) := ⟨types, ftsOk_, ptsOk_, (fns_cons (shadow_Cubes.sound n) (fns_cons (cover_Look.sound n) fns_nil)), cls_nil, sqs_nil, ems_nil, mixed⟩
theorem shadow_Look.eq (n : Nat) (x : pdens shadow_Look.ps) : Vi.run (shadow_Look.C n) n f14 shadow_Look.ps shadow_Look.rs x = shadow_Look n x.1 x.2.1 x.2.2 := by kernel_rfl
theorem shadow_Look.sound (n : Nat) : SoundE prog 14 (shadow_Look.e n) :=
  soundE_of_run (C := shadow_Look.C n) (n := n) (shadow_Look.ok n) func14 (by kernel_rfl) (by kernel_rfl) (fun x r h => (shadow_Look.eq n x).trans h)

def cover_Meets.rs : List RTy := [.fresh TCube]
def cover_Meets.ps : List PTy := [.data TCube, .data (.slc TCube)]
noncomputable def cover_Meets.e (n : Nat) : Ent := ⟨cover_Meets.ps, cover_Meets.rs, fun x => cover_Meets n x.1 x.2⟩
noncomputable def cover_Meets.C (n : Nat) : Ctx := { tab := tab, fts := fts, pts := pts, Γ := lookO [(53, cube_Meet.e n)], Γc := lookO [], Γs := lookO [], Γm := lookO [], ntmps := f67.ntmps, keep := Vi.look ([], []) [(3, ([2, 5, 10, 11, 12], [2]))], pins := [] }
theorem cover_Meets.ok (n : Nat) : CtxOk prog (cover_Meets.C n) := ⟨types, ftsOk_, ptsOk_, (fns_cons (cube_Meet.sound n) fns_nil), cls_nil, sqs_nil, ems_nil, mixed⟩
noncomputable def cover_Meets.code : Code := bodyOf f67
theorem cover_Meets.l0.step (n : Nat) (m0 : Nat) (out : (List Cube)) (v10 : (List Cube)) (v11 : Int) (v12 : Int) (c_1 : Cube) : it (EmR.no _) (cover_Meets.C n) n (Code.go cover_Meets.code [1, 1, 0, 1, 0, 0]) (blockK 0 (seqK (EmR.no _) (cover_Meets.C n) n (Code.go cover_Meets.code [1, 1, 1]) (bodyK (cover_Meets.C n) f67 cover_Meets.rs))) (m0 + 1) ⟨[(2, .ptr 2 0 TCube []), (5, .lst (.tip 100005 0) TCube out), (10, .dat (.slc TCube) v10), (11, .dat (.int .i64) v11), (12, .dat (.int .i64) v12)], [(100005, .tok 0), (2, .box 0 false (.dat TCube c_1))]⟩ = cover_Meets.s0 n (fun (out' : (List Cube)) (v12' : Int) => it (EmR.no _) (cover_Meets.C n) n (Code.go cover_Meets.code [1, 1, 0, 1, 0, 0]) (blockK 0 (seqK (EmR.no _) (cover_Meets.C n) n (Code.go cover_Meets.code [1, 1, 1]) (bodyK (cover_Meets.C n) f67 cover_Meets.rs))) m0 ⟨[(2, .ptr 2 0 TCube []), (5, .lst (.tip 100005 0) TCube (out')), (10, .dat (.slc TCube) v10), (11, .dat (.int .i64) v11), (12, .dat (.int .i64) (v12'))], [(100005, .tok 0), (2, .box 0 false (.dat TCube c_1))]⟩) out v10 v11 v12 c_1 := by kernel_rfl
theorem cover_Meets.l0.eq (n : Nat) (v10 : (List Cube)) (v11 : Int) (c_1 : Cube) : ∀ (m0 : Nat) (out : (List Cube)) (v12 : Int), it (EmR.no _) (cover_Meets.C n) n (Code.go cover_Meets.code [1, 1, 0, 1, 0, 0]) (blockK 0 (seqK (EmR.no _) (cover_Meets.C n) n (Code.go cover_Meets.code [1, 1, 1]) (bodyK (cover_Meets.C n) f67 cover_Meets.rs))) m0 ⟨[(2, .ptr 2 0 TCube []), (5, .lst (.tip 100005 0) TCube out), (10, .dat (.slc TCube) v10), (11, .dat (.int .i64) v11), (12, .dat (.int .i64) v12)], [(100005, .tok 0), (2, .box 0 false (.dat TCube c_1))]⟩ = cover_Meets.l0 n v10 v11 c_1 m0 out v12
  | 0, _, _ => rfl
  | m0 + 1, out, v12 =>
    (cover_Meets.l0.step n m0 out v10 v11 v12 c_1).trans (congr1 (fun k0 => cover_Meets.s0 n k0 out v10 v11 v12 c_1) (funext fun out' => funext fun v12' => cover_Meets.l0.eq n v10 v11 c_1 m0 out' v12'))
theorem cover_Meets.run0 (n : Nat) (x : pdens cover_Meets.ps) : Vi.run (cover_Meets.C n) n f67 cover_Meets.ps cover_Meets.rs x = cover_Meets.s n (fun (out' : (List Cube)) (v10' : (List Cube)) (v11' : Int) (v12' : Int) (c_1' : Cube) => it (EmR.no _) (cover_Meets.C n) n (Code.go cover_Meets.code [1, 1, 0, 1, 0, 0]) (blockK 0 (seqK (EmR.no _) (cover_Meets.C n) n (Code.go cover_Meets.code [1, 1, 1]) (bodyK (cover_Meets.C n) f67 cover_Meets.rs))) n ⟨[(2, .ptr 2 0 TCube []), (5, .lst (.tip 100005 0) TCube (out')), (10, .dat (.slc TCube) (v10')), (11, .dat (.int .i64) (v11')), (12, .dat (.int .i64) (v12'))], [(100005, .tok 0), (2, .box 0 false (.dat TCube (c_1')))]⟩) x.1 x.2 := by kernel_rfl
theorem cover_Meets.eq (n : Nat) (x : pdens cover_Meets.ps) : Vi.run (cover_Meets.C n) n f67 cover_Meets.ps cover_Meets.rs x = cover_Meets n x.1 x.2 :=
  (cover_Meets.run0 n x).trans (congr1 (fun k0 => cover_Meets.s n k0 x.1 x.2) (funext fun out' => funext fun v10' => funext fun v11' => funext fun v12' => funext fun c_1' => cover_Meets.l0.eq n v10' v11' c_1' n out' v12'))
theorem cover_Meets.sound (n : Nat) : SoundE prog 67 (cover_Meets.e n) :=
  soundE_of_run (C := cover_Meets.C n) (n := n) (cover_Meets.ok n) func67 (by kernel_rfl) (by kernel_rfl) (fun x r h => (cover_Meets.eq n x).trans h)

def cube_Size.rs : List RTy := [.data (.int .i64)]
def cube_Size.ps : List PTy := [.data TCube]
noncomputable def cube_Size.e (n : Nat) : Ent := ⟨cube_Size.ps, cube_Size.rs, fun x => cube_Size n x⟩
noncomputable def cube_Size.C (n : Nat) : Ctx := { tab := tab, fts := fts, pts := pts, Γ := lookO [(86, wide_Many.e n)], Γc := lookO [], Γs := lookO [], Γm := lookO [], ntmps := f68.ntmps, keep := Vi.look ([], []) [(3, ([3, 6, 7], []))], pins := [] }
theorem cube_Size.ok (n : Nat) : CtxOk prog (cube_Size.C n) := ⟨types, ftsOk_, ptsOk_, (fns_cons (wide_Many.sound n) fns_nil), cls_nil, sqs_nil, ems_nil, mixed⟩
noncomputable def cube_Size.code : Code := bodyOf f68
theorem cube_Size.l0.step (n : Nat) (m0 : Nat) (n3 : Int) (v6 : Cube) (v7 : Int) : it (EmR.no _) (cube_Size.C n) n (Code.go cube_Size.code [1, 1, 0, 1, 0, 0]) (blockK 0 (seqK (EmR.no _) (cube_Size.C n) n (Code.go cube_Size.code [1, 1, 1]) (bodyK (cube_Size.C n) f68 cube_Size.rs))) (m0 + 1) ⟨[(3, .dat (.int .i64) n3), (6, .dat TCube v6), (7, .dat (.int .i64) v7)], []⟩ = cube_Size.s0 n (fun (n3' : Int) (v7' : Int) => it (EmR.no _) (cube_Size.C n) n (Code.go cube_Size.code [1, 1, 0, 1, 0, 0]) (blockK 0 (seqK (EmR.no _) (cube_Size.C n) n (Code.go cube_Size.code [1, 1, 1]) (bodyK (cube_Size.C n) f68 cube_Size.rs))) m0 ⟨[(3, .dat (.int .i64) (n3')), (6, .dat TCube v6), (7, .dat (.int .i64) (v7'))], []⟩) n3 v6 v7 := by kernel_rfl
theorem cube_Size.l0.eq (n : Nat) (v6 : Cube) : ∀ (m0 : Nat) (n3 : Int) (v7 : Int), it (EmR.no _) (cube_Size.C n) n (Code.go cube_Size.code [1, 1, 0, 1, 0, 0]) (blockK 0 (seqK (EmR.no _) (cube_Size.C n) n (Code.go cube_Size.code [1, 1, 1]) (bodyK (cube_Size.C n) f68 cube_Size.rs))) m0 ⟨[(3, .dat (.int .i64) n3), (6, .dat TCube v6), (7, .dat (.int .i64) v7)], []⟩ = cube_Size.l0 n v6 m0 n3 v7
  | 0, _, _ => rfl
  | m0 + 1, n3, v7 =>
    (cube_Size.l0.step n m0 n3 v6 v7).trans (congr1 (fun k0 => cube_Size.s0 n k0 n3 v6 v7) (funext fun n3' => funext fun v7' => cube_Size.l0.eq n v6 m0 n3' v7'))
theorem cube_Size.run0 (n : Nat) (x : pdens cube_Size.ps) : Vi.run (cube_Size.C n) n f68 cube_Size.ps cube_Size.rs x = cube_Size.s n (fun (n3' : Int) (v6' : Cube) (v7' : Int) => it (EmR.no _) (cube_Size.C n) n (Code.go cube_Size.code [1, 1, 0, 1, 0, 0]) (blockK 0 (seqK (EmR.no _) (cube_Size.C n) n (Code.go cube_Size.code [1, 1, 1]) (bodyK (cube_Size.C n) f68 cube_Size.rs))) n ⟨[(3, .dat (.int .i64) (n3')), (6, .dat TCube (v6')), (7, .dat (.int .i64) (v7'))], []⟩) x := by kernel_rfl
theorem cube_Size.eq (n : Nat) (x : pdens cube_Size.ps) : Vi.run (cube_Size.C n) n f68 cube_Size.ps cube_Size.rs x = cube_Size n x :=
  (cube_Size.run0 n x).trans (congr1 (fun k0 => cube_Size.s n k0 x) (funext fun n3' => funext fun v6' => funext fun v7' => cube_Size.l0.eq n v6' n n3' v7'))
theorem cube_Size.sound (n : Nat) : SoundE prog 68 (cube_Size.e n) :=
  soundE_of_run (C := cube_Size.C n) (n := n) (cube_Size.ok n) func68 (by kernel_rfl) (by kernel_rfl) (fun x r h => (cube_Size.eq n x).trans h)

def cover_Bound.rs : List RTy := [.data (.int .i64)]
def cover_Bound.ps : List PTy := [.data TCube, .data (.slc TCube)]
noncomputable def cover_Bound.e (n : Nat) : Ent := ⟨cover_Bound.ps, cover_Bound.rs, fun x => cover_Bound n x.1 x.2⟩
noncomputable def cover_Bound.C (n : Nat) : Ctx := { tab := tab, fts := fts, pts := pts, Γ := lookO [(67, cover_Meets.e n), (68, cube_Size.e n)], Γc := lookO [], Γs := lookO [], Γm := lookO [], ntmps := f46.ntmps, keep := Vi.look ([], []) [(4, ([6, 16, 17, 18], []))], pins := [] }
theorem cover_Bound.ok (n : Nat) : CtxOk prog (cover_Bound.C n) := ⟨types, ftsOk_, ptsOk_, (fns_cons (cover_Meets.sound n) (fns_cons (cube_Size.sound n) fns_nil)), cls_nil, sqs_nil, ems_nil, mixed⟩
noncomputable def cover_Bound.code : Code := bodyOf f46
theorem cover_Bound.l0.step (n : Nat) (m0 : Nat) (n6 : Int) (v16 : (List Cube)) (v17 : Int) (v18 : Int) : it (EmR.no _) (cover_Bound.C n) n (Code.go cover_Bound.code [1, 1, 1, 0, 1, 0, 0]) (blockK 0 (seqK (EmR.no _) (cover_Bound.C n) n (Code.go cover_Bound.code [1, 1, 1, 1]) (bodyK (cover_Bound.C n) f46 cover_Bound.rs))) (m0 + 1) ⟨[(6, .dat (.int .i64) n6), (16, .lst (.tip 100016 0) TCube v16), (17, .dat (.int .i64) v17), (18, .dat (.int .i64) v18)], [(100016, .tok 0)]⟩ = cover_Bound.s0 n (fun (n6' : Int) (v18' : Int) => it (EmR.no _) (cover_Bound.C n) n (Code.go cover_Bound.code [1, 1, 1, 0, 1, 0, 0]) (blockK 0 (seqK (EmR.no _) (cover_Bound.C n) n (Code.go cover_Bound.code [1, 1, 1, 1]) (bodyK (cover_Bound.C n) f46 cover_Bound.rs))) m0 ⟨[(6, .dat (.int .i64) (n6')), (16, .lst (.tip 100016 0) TCube v16), (17, .dat (.int .i64) v17), (18, .dat (.int .i64) (v18'))], [(100016, .tok 0)]⟩) n6 v16 v17 v18 := by kernel_rfl
theorem cover_Bound.l0.eq (n : Nat) (v16 : (List Cube)) (v17 : Int) : ∀ (m0 : Nat) (n6 : Int) (v18 : Int), it (EmR.no _) (cover_Bound.C n) n (Code.go cover_Bound.code [1, 1, 1, 0, 1, 0, 0]) (blockK 0 (seqK (EmR.no _) (cover_Bound.C n) n (Code.go cover_Bound.code [1, 1, 1, 1]) (bodyK (cover_Bound.C n) f46 cover_Bound.rs))) m0 ⟨[(6, .dat (.int .i64) n6), (16, .lst (.tip 100016 0) TCube v16), (17, .dat (.int .i64) v17), (18, .dat (.int .i64) v18)], [(100016, .tok 0)]⟩ = cover_Bound.l0 n v16 v17 m0 n6 v18
  | 0, _, _ => rfl
  | m0 + 1, n6, v18 =>
    (cover_Bound.l0.step n m0 n6 v16 v17 v18).trans (congr1 (fun k0 => cover_Bound.s0 n k0 n6 v16 v17 v18) (funext fun n6' => funext fun v18' => cover_Bound.l0.eq n v16 v17 m0 n6' v18'))
theorem cover_Bound.run0 (n : Nat) (x : pdens cover_Bound.ps) : Vi.run (cover_Bound.C n) n f46 cover_Bound.ps cover_Bound.rs x = cover_Bound.s n (fun (n6' : Int) (v16' : (List Cube)) (v17' : Int) (v18' : Int) => it (EmR.no _) (cover_Bound.C n) n (Code.go cover_Bound.code [1, 1, 1, 0, 1, 0, 0]) (blockK 0 (seqK (EmR.no _) (cover_Bound.C n) n (Code.go cover_Bound.code [1, 1, 1, 1]) (bodyK (cover_Bound.C n) f46 cover_Bound.rs))) n ⟨[(6, .dat (.int .i64) (n6')), (16, .lst (.tip 100016 0) TCube (v16')), (17, .dat (.int .i64) (v17')), (18, .dat (.int .i64) (v18'))], [(100016, .tok 0)]⟩) x.1 x.2 := by kernel_rfl
theorem cover_Bound.eq (n : Nat) (x : pdens cover_Bound.ps) : Vi.run (cover_Bound.C n) n f46 cover_Bound.ps cover_Bound.rs x = cover_Bound n x.1 x.2 :=
  (cover_Bound.run0 n x).trans (congr1 (fun k0 => cover_Bound.s n k0 x.1 x.2) (funext fun n6' => funext fun v16' => funext fun v17' => funext fun v18' => cover_Bound.l0.eq n v16' v17' n n6' v18'))
theorem cover_Bound.sound (n : Nat) : SoundE prog 46 (cover_Bound.e n) :=
  soundE_of_run (C := cover_Bound.C n) (n := n) (cover_Bound.ok n) func46 (by kernel_rfl) (by kernel_rfl) (fun x r h => (cover_Bound.eq n x).trans h)

def shadow_Bound.rs : List RTy := [.data (.int .i64)]
def shadow_Bound.ps : List PTy := [.data (.slc TRule)]
noncomputable def shadow_Bound.e (n : Nat) : Ent := ⟨shadow_Bound.ps, shadow_Bound.rs, fun x => shadow_Bound n x⟩
noncomputable def shadow_Bound.C (n : Nat) : Ctx := { tab := tab, fts := fts, pts := pts, Γ := lookO [(42, ⟨shadow_Cubes.ps, [.data (.slc TCube)], (shadow_Cubes.e n).g⟩), (46, cover_Bound.e n)], Γc := lookO [], Γs := lookO [], Γm := lookO [], ntmps := f16.ntmps, keep := Vi.look ([], []) [(4, ([3, 4, 9, 10, 11], []))], pins := [] }
theorem shadow_Bound.ok (n : Nat) : CtxOk prog (shadow_Bound.C n) := ⟨types, ftsOk_, ptsOk_, (fns_cons (soundE_weak (shadow_Cubes.sound n)) (fns_cons (cover_Bound.sound n) fns_nil)), cls_nil, sqs_nil, ems_nil, mixed⟩
noncomputable def shadow_Bound.code : Code := bodyOf f16
theorem shadow_Bound.l0.step (n : Nat) (m0 : Nat) (all : (List Cube)) (n4 : Int) (v9 : (List Cube)) (v10 : Int) (v11 : Int) : it (EmR.no _) (shadow_Bound.C n) n (Code.go shadow_Bound.code [1, 1, 1, 0, 1, 0, 0]) (blockK 0 (seqK (EmR.no _) (shadow_Bound.C n) n (Code.go shadow_Bound.code [1, 1, 1, 1]) (bodyK (shadow_Bound.C n) f16 shadow_Bound.rs))) (m0 + 1) ⟨[(3, .dat (.slc TCube) all), (4, .dat (.int .i64) n4), (9, .dat (.slc TCube) v9), (10, .dat (.int .i64) v10), (11, .dat (.int .i64) v11)], []⟩ = shadow_Bound.s0 n (fun (n4' : Int) (v11' : Int) => it (EmR.no _) (shadow_Bound.C n) n (Code.go shadow_Bound.code [1, 1, 1, 0, 1, 0, 0]) (blockK 0 (seqK (EmR.no _) (shadow_Bound.C n) n (Code.go shadow_Bound.code [1, 1, 1, 1]) (bodyK (shadow_Bound.C n) f16 shadow_Bound.rs))) m0 ⟨[(3, .dat (.slc TCube) all), (4, .dat (.int .i64) (n4')), (9, .dat (.slc TCube) v9), (10, .dat (.int .i64) v10), (11, .dat (.int .i64) (v11'))], []⟩) all n4 v9 v10 v11 := by kernel_rfl
theorem shadow_Bound.l0.eq (n : Nat) (all : (List Cube)) (v9 : (List Cube)) (v10 : Int) : ∀ (m0 : Nat) (n4 : Int) (v11 : Int), it (EmR.no _) (shadow_Bound.C n) n (Code.go shadow_Bound.code [1, 1, 1, 0, 1, 0, 0]) (blockK 0 (seqK (EmR.no _) (shadow_Bound.C n) n (Code.go shadow_Bound.code [1, 1, 1, 1]) (bodyK (shadow_Bound.C n) f16 shadow_Bound.rs))) m0 ⟨[(3, .dat (.slc TCube) all), (4, .dat (.int .i64) n4), (9, .dat (.slc TCube) v9), (10, .dat (.int .i64) v10), (11, .dat (.int .i64) v11)], []⟩ = shadow_Bound.l0 n all v9 v10 m0 n4 v11
  | 0, _, _ => rfl
  | m0 + 1, n4, v11 =>
    (shadow_Bound.l0.step n m0 all n4 v9 v10 v11).trans (congr1 (fun k0 => shadow_Bound.s0 n k0 all n4 v9 v10 v11) (funext fun n4' => funext fun v11' => shadow_Bound.l0.eq n all v9 v10 m0 n4' v11'))
theorem shadow_Bound.run0 (n : Nat) (x : pdens shadow_Bound.ps) : Vi.run (shadow_Bound.C n) n f16 shadow_Bound.ps shadow_Bound.rs x = shadow_Bound.s n (fun (all' : (List Cube)) (n4' : Int) (v9' : (List Cube)) (v10' : Int) (v11' : Int) => it (EmR.no _) (shadow_Bound.C n) n (Code.go shadow_Bound.code [1, 1, 1, 0, 1, 0, 0]) (blockK 0 (seqK (EmR.no _) (shadow_Bound.C n) n (Code.go shadow_Bound.code [1, 1, 1, 1]) (bodyK (shadow_Bound.C n) f16 shadow_Bound.rs))) n ⟨[(3, .dat (.slc TCube) (all')), (4, .dat (.int .i64) (n4')), (9, .dat (.slc TCube) (v9')), (10, .dat (.int .i64) (v10')), (11, .dat (.int .i64) (v11'))], []⟩) x := by kernel_rfl
theorem shadow_Bound.eq (n : Nat) (x : pdens shadow_Bound.ps) : Vi.run (shadow_Bound.C n) n f16 shadow_Bound.ps shadow_Bound.rs x = shadow_Bound n x :=
  (shadow_Bound.run0 n x).trans (congr1 (fun k0 => shadow_Bound.s n k0 x) (funext fun all' => funext fun n4' => funext fun v9' => funext fun v10' => funext fun v11' => shadow_Bound.l0.eq n all' v9' v10' n n4' v11'))
theorem shadow_Bound.sound (n : Nat) : SoundE prog 16 (shadow_Bound.e n) :=
  soundE_of_run (C := shadow_Bound.C n) (n := n) (shadow_Bound.ok n) func16 (by kernel_rfl) (by kernel_rfl) (fun x r h => (shadow_Bound.eq n x).trans h)

def law34_awake.rs : List RTy := [.data .bool]
def law34_awake.ps : List PTy := []
noncomputable def law34_awake.e (n : Nat) : Ent := ⟨law34_awake.ps, law34_awake.rs, fun x => law34_awake n⟩
noncomputable def law34_awake.C (n : Nat) : Ctx := { tab := tab, fts := fts, pts := pts, Γ := lookO [(14, shadow_Look.e n), (16, shadow_Bound.e n), (18, shadow_Drop.e n), (42, shadow_Cubes.e n)], Γc := lookO [], Γs := lookO [], Γm := lookO [], ntmps := f13.ntmps, keep := Vi.look ([], []) [], pins := [] }
theorem law34_awake.ok (n : Nat) : CtxOk prog (law34_awake.C n) := ⟨types, ftsOk_, ptsOk_, (fns_cons (shadow_Look.sound n) (fns_cons (shadow_Bound.sound n) (fns_cons (shadow_Drop.sound n) (fns_cons (shadow_Cubes.sound n) fns_nil)))), cls_nil, sqs_nil, ems_nil, mixed⟩
theorem law34_awake.eq (n : Nat) (x : pdens law34_awake.ps) : Vi.run (law34_awake.C n) n f13 law34_awake.ps law34_awake.rs x = law34_awake n := by kernel_rfl
theorem law34_awake.sound (n : Nat) : SoundE prog 13 (law34_awake.e n) :=
  soundE_of_run (C := law34_awake.C n) (n := n) (law34_awake.ok n) func13 (by kernel_rfl) (by kernel_rfl) (fun x r h => (law34_awake.eq n x).trans h)

def ref02_Less.rs : List RTy := [.data TWide]
def ref02_Less.ps : List PTy := [.data TWide, .data TWide]
noncomputable def ref02_Less.e (n : Nat) : Ent := ⟨ref02_Less.ps, ref02_Less.rs, fun x => some (ref02_Less x.1 x.2)⟩
noncomputable def ref02_Less.C (n : Nat) : Ctx := { tab := tab, fts := fts, pts := pts, Γ := lookO [], Γc := lookO [], Γs := lookO [], Γm := lookO [], ntmps := f113.ntmps, keep := Vi.look ([], []) [], pins := [] }
theorem ref02_Less.ok (n : Nat) : CtxOk prog (ref02_Less.C n) := ⟨types, ftsOk_, ptsOk_, fns_nil, cls_nil, sqs_nil, ems_nil, mixed⟩
theorem ref02_Less.eq (n : Nat) (x : pdens ref02_Less.ps) : Vi.run (ref02_Less.C n) n f113 ref02_Less.ps ref02_Less.rs x = some (ref02_Less x.1 x.2) := by kernel_rfl
theorem ref02_Less.sound (n : Nat) : SoundE prog 113 (ref02_Less.e n) :=
  soundE_of_run (C := ref02_Less.C n) (n := n) (ref02_Less.ok n) func113 (by kernel_rfl) (by kernel_rfl) (fun x r h => (ref02_Less.eq n x).trans h)

def ref05_Within.rs : List RTy := [.data .bool]
def ref05_Within.ps : List PTy := [.data TTern, .data TTern]
noncomputable def ref05_Within.e (n : Nat) : Ent := ⟨ref05_Within.ps, ref05_Within.rs, fun x => some (ref05_Within x.1 x.2)⟩
noncomputable def ref05_Within.C (n : Nat) : Ctx := { tab := tab, fts := fts, pts := pts, Γ := lookO [(90, ref02_And.e n), (91, ref02_Zero.e n), (92, ref02_Xor.e n), (113, ref02_Less.e n)], Γc := lookO [], Γs := lookO [], Γm := lookO [], ntmps := f103.ntmps, keep := Vi.look ([], []) [], pins := [] }
theorem ref05_Within.ok (n : Nat) : CtxOk prog (ref05_Within.C n) := ⟨types, ftsOk_, ptsOk_, (fns_cons (ref02_And.sound n) (fns_cons (ref02_Zero.sound n) (fns_cons (ref02_Xor.sound n) (fns_cons (ref02_Less.sound n) fns_nil)))), cls_nil, sqs_nil, ems_nil, mixed⟩
theorem ref05_Within.run0 (n : Nat) (x : pdens ref05_Within.ps) : Vi.run (ref05_Within.C n) n f103 ref05_Within.ps ref05_Within.rs x = ref05_Within.o x.1 x.2 := by kernel_rfl
theorem ref05_Within.eq (n : Nat) (x : pdens ref05_Within.ps) : Vi.run (ref05_Within.C n) n f103 ref05_Within.ps ref05_Within.rs x = some (ref05_Within x.1 x.2) := (ref05_Within.run0 n x).trans (ref05_Within.o_eq _ _)
theorem ref05_Within.sound (n : Nat) : SoundE prog 103 (ref05_Within.e n) :=
  soundE_of_run (C := ref05_Within.C n) (n := n) (ref05_Within.ok n) func103 (by kernel_rfl) (by kernel_rfl) (fun x r h => (ref05_Within.eq n x).trans h)

def ref06_Within.rs : List RTy := [.data .bool]
def ref06_Within.ps : List PTy := [.data TCube, .data TCube]
noncomputable def ref06_Within.e (n : Nat) : Ent := ⟨ref06_Within.ps, ref06_Within.rs, fun x => ref06_Within n x.1 x.2⟩
noncomputable def ref06_Within.C (n : Nat) : Ctx := { tab := tab, fts := fts, pts := pts, Γ := lookO [(103, ref05_Within.e n)], Γc := lookO [], Γs := lookO [], Γm := lookO [], ntmps := f83.ntmps, keep := Vi.look ([], []) [(2, ([2, 3, 5], [2, 3]))], pins := [] }
theorem ref06_Within.ok (n : Nat) : CtxOk prog (ref06_Within.C n) := ⟨types, ftsOk_, ptsOk_, (fns_cons (ref05_Within.sound n) fns_nil), cls_nil, sqs_nil, ems_nil, mixed⟩
noncomputable def ref06_Within.code : Code := bodyOf f83
theorem ref06_Within.l0.step (n : Nat) (m0 : Nat) (f : Int) (a_1 : Cube) (b_1 : Cube) : it (EmR.no _) (ref06_Within.C n) n (Code.go ref06_Within.code [1, 0, 1, 0, 0]) (blockK 0 (seqK (EmR.no _) (ref06_Within.C n) n (Code.go ref06_Within.code [1, 1]) (bodyK (ref06_Within.C n) f83 ref06_Within.rs))) (m0 + 1) ⟨[(2, .ptr 2 0 TCube []), (3, .ptr 3 0 TCube []), (5, .dat (.int .i64) f)], [(2, .box 0 false (.dat TCube a_1)), (3, .box 0 false (.dat TCube b_1))]⟩ = ref06_Within.s0 n (fun (f' : Int) => it (EmR.no _) (ref06_Within.C n) n (Code.go ref06_Within.code [1, 0, 1, 0, 0]) (blockK 0 (seqK (EmR.no _) (ref06_Within.C n) n (Code.go ref06_Within.code [1, 1]) (bodyK (ref06_Within.C n) f83 ref06_Within.rs))) m0 ⟨[(2, .ptr 2 0 TCube []), (3, .ptr 3 0 TCube []), (5, .dat (.int .i64) (f'))], [(2, .box 0 false (.dat TCube a_1)), (3, .box 0 false (.dat TCube b_1))]⟩) f a_1 b_1 := by kernel_rfl
theorem ref06_Within.l0.eq (n : Nat) (a_1 : Cube) (b_1 : Cube) : ∀ (m0 : Nat) (f : Int), it (EmR.no _) (ref06_Within.C n) n (Code.go ref06_Within.code [1, 0, 1, 0, 0]) (blockK 0 (seqK (EmR.no _) (ref06_Within.C n) n (Code.go ref06_Within.code [1, 1]) (bodyK (ref06_Within.C n) f83 ref06_Within.rs))) m0 ⟨[(2, .ptr 2 0 TCube []), (3, .ptr 3 0 TCube []), (5, .dat (.int .i64) f)], [(2, .box 0 false (.dat TCube a_1)), (3, .box 0 false (.dat TCube b_1))]⟩ = ref06_Within.l0 n a_1 b_1 m0 f
  | 0, _ => rfl
  | m0 + 1, f =>
    (ref06_Within.l0.step n m0 f a_1 b_1).trans (congr1 (fun k0 => ref06_Within.s0 n k0 f a_1 b_1) (funext fun f' => ref06_Within.l0.eq n a_1 b_1 m0 f'))
theorem ref06_Within.run0 (n : Nat) (x : pdens ref06_Within.ps) : Vi.run (ref06_Within.C n) n f83 ref06_Within.ps ref06_Within.rs x = ref06_Within.s n (fun (f' : Int) (a_1' : Cube) (b_1' : Cube) => it (EmR.no _) (ref06_Within.C n) n (Code.go ref06_Within.code [1, 0, 1, 0, 0]) (blockK 0 (seqK (EmR.no _) (ref06_Within.C n) n (Code.go ref06_Within.code [1, 1]) (bodyK (ref06_Within.C n) f83 ref06_Within.rs))) n ⟨[(2, .ptr 2 0 TCube []), (3, .ptr 3 0 TCube []), (5, .dat (.int .i64) (f'))], [(2, .box 0 false (.dat TCube (a_1'))), (3, .box 0 false (.dat TCube (b_1')))]⟩) x.1 x.2 := by kernel_rfl
theorem ref06_Within.eq (n : Nat) (x : pdens ref06_Within.ps) : Vi.run (ref06_Within.C n) n f83 ref06_Within.ps ref06_Within.rs x = ref06_Within n x.1 x.2 :=
  (ref06_Within.run0 n x).trans (congr1 (fun k0 => ref06_Within.s n k0 x.1 x.2) (funext fun f' => funext fun a_1' => funext fun b_1' => ref06_Within.l0.eq n a_1' b_1' n f'))
theorem ref06_Within.sound (n : Nat) : SoundE prog 83 (ref06_Within.e n) :=
  soundE_of_run (C := ref06_Within.C n) (n := n) (ref06_Within.ok n) func83 (by kernel_rfl) (by kernel_rfl) (fun x r h => (ref06_Within.eq n x).trans h)

def ref06_Pick.rs : List RTy := [.data THeader]
def ref06_Pick.ps : List PTy := [.data TCube]
noncomputable def ref06_Pick.e (n : Nat) : Ent := ⟨ref06_Pick.ps, ref06_Pick.rs, fun x => ref06_Pick n x⟩
noncomputable def ref06_Pick.C (n : Nat) : Ctx := { tab := tab, fts := fts, pts := pts, Γ := lookO [(93, ref05_Clean.e n)], Γc := lookO [], Γs := lookO [], Γm := lookO [], ntmps := f84.ntmps, keep := Vi.look ([], []) [(3, ([1, 2, 3, 4], [1, 2, 3]))], pins := [] }
theorem ref06_Pick.ok (n : Nat) : CtxOk prog (ref06_Pick.C n) := ⟨types, ftsOk_, ptsOk_, (fns_cons (ref05_Clean.sound n) fns_nil), cls_nil, sqs_nil, ems_nil, mixed⟩
noncomputable def ref06_Pick.code : Code := bodyOf f84
theorem ref06_Pick.l0.step (n : Nat) (m0 : Nat) (f : Int) (c_1 : Cube) (v2 : Header) (h : Header) : it (EmR.no _) (ref06_Pick.C n) n (Code.go ref06_Pick.code [1, 1, 0, 1, 0, 0]) (blockK 0 (seqK (EmR.no _) (ref06_Pick.C n) n (Code.go ref06_Pick.code [1, 1, 1]) (bodyK (ref06_Pick.C n) f84 ref06_Pick.rs))) (m0 + 1) ⟨[(1, .ptr 1 0 TCube []), (2, .ptr 2 0 THeader []), (3, .ptr 3 0 THeader []), (4, .dat (.int .i64) f)], [(1, .box 0 false (.dat TCube c_1)), (2, .box 0 false (.dat THeader v2)), (3, .box 0 false (.dat THeader h))]⟩ = ref06_Pick.s0 n (fun (f' : Int) (h' : Header) => it (EmR.no _) (ref06_Pick.C n) n (Code.go ref06_Pick.code [1, 1, 0, 1, 0, 0]) (blockK 0 (seqK (EmR.no _) (ref06_Pick.C n) n (Code.go ref06_Pick.code [1, 1, 1]) (bodyK (ref06_Pick.C n) f84 ref06_Pick.rs))) m0 ⟨[(1, .ptr 1 0 TCube []), (2, .ptr 2 0 THeader []), (3, .ptr 3 0 THeader []), (4, .dat (.int .i64) (f'))], [(1, .box 0 false (.dat TCube c_1)), (2, .box 0 false (.dat THeader v2)), (3, .box 0 false (.dat THeader (h')))]⟩) f c_1 v2 h := by kernel_rfl
theorem ref06_Pick.l0.eq (n : Nat) (c_1 : Cube) (v2 : Header) : ∀ (m0 : Nat) (f : Int) (h : Header), it (EmR.no _) (ref06_Pick.C n) n (Code.go ref06_Pick.code [1, 1, 0, 1, 0, 0]) (blockK 0 (seqK (EmR.no _) (ref06_Pick.C n) n (Code.go ref06_Pick.code [1, 1, 1]) (bodyK (ref06_Pick.C n) f84 ref06_Pick.rs))) m0 ⟨[(1, .ptr 1 0 TCube []), (2, .ptr 2 0 THeader []), (3, .ptr 3 0 THeader []), (4, .dat (.int .i64) f)], [(1, .box 0 false (.dat TCube c_1)), (2, .box 0 false (.dat THeader v2)), (3, .box 0 false (.dat THeader h))]⟩ = ref06_Pick.l0 n c_1 v2 m0 f h
  | 0, _, _ => rfl
  | m0 + 1, f, h =>
    (ref06_Pick.l0.step n m0 f c_1 v2 h).trans (congr1 (fun k0 => ref06_Pick.s0 n k0 f c_1 v2 h) (funext fun f' => funext fun h' => ref06_Pick.l0.eq n c_1 v2 m0 f' h'))
theorem ref06_Pick.run0 (n : Nat) (x : pdens ref06_Pick.ps) : Vi.run (ref06_Pick.C n) n f84 ref06_Pick.ps ref06_Pick.rs x = ref06_Pick.s n (fun (f' : Int) (c_1' : Cube) (v2' : Header) (h' : Header) => it (EmR.no _) (ref06_Pick.C n) n (Code.go ref06_Pick.code [1, 1, 0, 1, 0, 0]) (blockK 0 (seqK (EmR.no _) (ref06_Pick.C n) n (Code.go ref06_Pick.code [1, 1, 1]) (bodyK (ref06_Pick.C n) f84 ref06_Pick.rs))) n ⟨[(1, .ptr 1 0 TCube []), (2, .ptr 2 0 THeader []), (3, .ptr 3 0 THeader []), (4, .dat (.int .i64) (f'))], [(1, .box 0 false (.dat TCube (c_1'))), (2, .box 0 false (.dat THeader (v2'))), (3, .box 0 false (.dat THeader (h')))]⟩) x := by kernel_rfl
theorem ref06_Pick.eq (n : Nat) (x : pdens ref06_Pick.ps) : Vi.run (ref06_Pick.C n) n f84 ref06_Pick.ps ref06_Pick.rs x = ref06_Pick n x :=
  (ref06_Pick.run0 n x).trans (congr1 (fun k0 => ref06_Pick.s n k0 x) (funext fun f' => funext fun c_1' => funext fun v2' => funext fun h' => ref06_Pick.l0.eq n c_1' v2' n f' h'))
theorem ref06_Pick.sound (n : Nat) : SoundE prog 84 (ref06_Pick.e n) :=
  soundE_of_run (C := ref06_Pick.C n) (n := n) (ref06_Pick.ok n) func84 (by kernel_rfl) (by kernel_rfl) (fun x r h => (ref06_Pick.eq n x).trans h)

def ref06_Clean.rs : List RTy := [.data TCube]
def ref06_Clean.ps : List PTy := [.data TCube]
noncomputable def ref06_Clean.e (n : Nat) : Ent := ⟨ref06_Clean.ps, ref06_Clean.rs, fun x => ref06_Clean n x⟩
noncomputable def ref06_Clean.C (n : Nat) : Ctx := { tab := tab, fts := fts, pts := pts, Γ := lookO [(93, ref05_Clean.e n)], Γc := lookO [], Γs := lookO [], Γm := lookO [], ntmps := f104.ntmps, keep := Vi.look ([], []) [(2, ([1, 2, 3], [1, 2]))], pins := [] }
theorem ref06_Clean.ok (n : Nat) : CtxOk prog (ref06_Clean.C n) := ⟨types, ftsOk_, ptsOk_, (fns_cons (ref05_Clean.sound n) fns_nil), cls_nil, sqs_nil, ems_nil, mixed⟩
noncomputable def ref06_Clean.code : Code := bodyOf f104
theorem ref06_Clean.l0.step (n : Nat) (m0 : Nat) (f : Int) (c_1 : Cube) (v2 : Cube) : it (EmR.no _) (ref06_Clean.C n) n (Code.go ref06_Clean.code [1, 0, 1, 0, 0]) (blockK 0 (seqK (EmR.no _) (ref06_Clean.C n) n (Code.go ref06_Clean.code [1, 1]) (bodyK (ref06_Clean.C n) f104 ref06_Clean.rs))) (m0 + 1) ⟨[(1, .ptr 1 0 TCube []), (2, .ptr 2 0 TCube []), (3, .dat (.int .i64) f)], [(1, .box 0 false (.dat TCube c_1)), (2, .box 0 false (.dat TCube v2))]⟩ = ref06_Clean.s0 n (fun (f' : Int) (c_1' : Cube) => it (EmR.no _) (ref06_Clean.C n) n (Code.go ref06_Clean.code [1, 0, 1, 0, 0]) (blockK 0 (seqK (EmR.no _) (ref06_Clean.C n) n (Code.go ref06_Clean.code [1, 1]) (bodyK (ref06_Clean.C n) f104 ref06_Clean.rs))) m0 ⟨[(1, .ptr 1 0 TCube []), (2, .ptr 2 0 TCube []), (3, .dat (.int .i64) (f'))], [(1, .box 0 false (.dat TCube (c_1'))), (2, .box 0 false (.dat TCube v2))]⟩) f c_1 v2 := by kernel_rfl
theorem ref06_Clean.l0.eq (n : Nat) (v2 : Cube) : ∀ (m0 : Nat) (f : Int) (c_1 : Cube), it (EmR.no _) (ref06_Clean.C n) n (Code.go ref06_Clean.code [1, 0, 1, 0, 0]) (blockK 0 (seqK (EmR.no _) (ref06_Clean.C n) n (Code.go ref06_Clean.code [1, 1]) (bodyK (ref06_Clean.C n) f104 ref06_Clean.rs))) m0 ⟨[(1, .ptr 1 0 TCube []), (2, .ptr 2 0 TCube []), (3, .dat (.int .i64) f)], [(1, .box 0 false (.dat TCube c_1)), (2, .box 0 false (.dat TCube v2))]⟩ = ref06_Clean.l0 n v2 m0 f c_1
  | 0, _, _ => rfl
  | m0 + 1, f, c_1 =>
    (ref06_Clean.l0.step n m0 f c_1 v2).trans (congr1 (fun k0 => ref06_Clean.s0 n k0 f c_1 v2) (funext fun f' => funext fun c_1' => ref06_Clean.l0.eq n v2 m0 f' c_1'))
theorem ref06_Clean.run0 (n : Nat) (x : pdens ref06_Clean.ps) : Vi.run (ref06_Clean.C n) n f104 ref06_Clean.ps ref06_Clean.rs x = ref06_Clean.s n (fun (f' : Int) (c_1' : Cube) (v2' : Cube) => it (EmR.no _) (ref06_Clean.C n) n (Code.go ref06_Clean.code [1, 0, 1, 0, 0]) (blockK 0 (seqK (EmR.no _) (ref06_Clean.C n) n (Code.go ref06_Clean.code [1, 1]) (bodyK (ref06_Clean.C n) f104 ref06_Clean.rs))) n ⟨[(1, .ptr 1 0 TCube []), (2, .ptr 2 0 TCube []), (3, .dat (.int .i64) (f'))], [(1, .box 0 false (.dat TCube (c_1'))), (2, .box 0 false (.dat TCube (v2')))]⟩) x := by kernel_rfl
theorem ref06_Clean.eq (n : Nat) (x : pdens ref06_Clean.ps) : Vi.run (ref06_Clean.C n) n f104 ref06_Clean.ps ref06_Clean.rs x = ref06_Clean n x :=
  (ref06_Clean.run0 n x).trans (congr1 (fun k0 => ref06_Clean.s n k0 x) (funext fun f' => funext fun c_1' => funext fun v2' => ref06_Clean.l0.eq n v2' n f' c_1'))
theorem ref06_Clean.sound (n : Nat) : SoundE prog 104 (ref06_Clean.e n) :=
  soundE_of_run (C := ref06_Clean.C n) (n := n) (ref06_Clean.ok n) func104 (by kernel_rfl) (by kernel_rfl) (fun x r h => (ref06_Clean.eq n x).trans h)

def ref05_Bits.rs : List RTy := [.fresh (.int .i64)]
def ref05_Bits.ps : List PTy := [.data TTern, .data TTern]
noncomputable def ref05_Bits.e (n : Nat) : Ent := ⟨ref05_Bits.ps, ref05_Bits.rs, fun x => ref05_Bits n x.1 x.2⟩
noncomputable def ref05_Bits.C (n : Nat) : Ctx := { tab := tab, fts := fts, pts := pts, Γ := lookO [(95, ref02_Has.e n)], Γc := lookO [], Γs := lookO [], Γm := lookO [], ntmps := f105.ntmps, keep := Vi.look ([], []) [(3, ([2, 3, 5, 6], [2, 3]))], pins := [] }
theorem ref05_Bits.ok (n : Nat) : CtxOk prog (ref05_Bits.C n) := ⟨types, ftsOk_, ptsOk_, (fns_cons (ref02_Has.sound n) fns_nil), cls_nil, sqs_nil, ems_nil, mixed⟩
noncomputable def ref05_Bits.code : Code := bodyOf f105
theorem ref05_Bits.l0.step (n : Nat) (m0 : Nat) (out : (List Int)) (i : Int) (a_1 : Tern) (b_1 : Tern) : it (EmR.no _) (ref05_Bits.C n) n (Code.go ref05_Bits.code [1, 1, 0, 1, 0, 0]) (blockK 0 (seqK (EmR.no _) (ref05_Bits.C n) n (Code.go ref05_Bits.code [1, 1, 1]) (bodyK (ref05_Bits.C n) f105 ref05_Bits.rs))) (m0 + 1) ⟨[(2, .ptr 2 0 TTern []), (3, .ptr 3 0 TTern []), (5, .lst (.tip 100005 0) (.int .i64) out), (6, .dat (.int .i64) i)], [(100005, .tok 0), (2, .box 0 false (.dat TTern a_1)), (3, .box 0 false (.dat TTern b_1))]⟩ = ref05_Bits.s0 n (fun (out' : (List Int)) (i' : Int) => it (EmR.no _) (ref05_Bits.C n) n (Code.go ref05_Bits.code [1, 1, 0, 1, 0, 0]) (blockK 0 (seqK (EmR.no _) (ref05_Bits.C n) n (Code.go ref05_Bits.code [1, 1, 1]) (bodyK (ref05_Bits.C n) f105 ref05_Bits.rs))) m0 ⟨[(2, .ptr 2 0 TTern []), (3, .ptr 3 0 TTern []), (5, .lst (.tip 100005 0) (.int .i64) (out')), (6, .dat (.int .i64) (i'))], [(100005, .tok 0), (2, .box 0 false (.dat TTern a_1)), (3, .box 0 false (.dat TTern b_1))]⟩) out i a_1 b_1 := by kernel_rfl
theorem ref05_Bits.l0.eq (n : Nat) (a_1 : Tern) (b_1 : Tern) : ∀ (m0 : Nat) (out : (List Int)) (i : Int), it (EmR.no _) (ref05_Bits.C n) n (Code.go ref05_Bits.code [1, 1, 0, 1, 0, 0]) (blockK 0 (seqK (EmR.no _) (ref05_Bits.C n) n (Code.go ref05_Bits.code [1, 1, 1]) (bodyK (ref05_Bits.C n) f105 ref05_Bits.rs))) m0 ⟨[(2, .ptr 2 0 TTern []), (3, .ptr 3 0 TTern []), (5, .lst (.tip 100005 0) (.int .i64) out), (6, .dat (.int .i64) i)], [(100005, .tok 0), (2, .box 0 false (.dat TTern a_1)), (3, .box 0 false (.dat TTern b_1))]⟩ = ref05_Bits.l0 n a_1 b_1 m0 out i
  | 0, _, _ => rfl
  | m0 + 1, out, i =>
    (ref05_Bits.l0.step n m0 out i a_1 b_1).trans (congr1 (fun k0 => ref05_Bits.s0 n k0 out i a_1 b_1) (funext fun out' => funext fun i' => ref05_Bits.l0.eq n a_1 b_1 m0 out' i'))
theorem ref05_Bits.run0 (n : Nat) (x : pdens ref05_Bits.ps) : Vi.run (ref05_Bits.C n) n f105 ref05_Bits.ps ref05_Bits.rs x = ref05_Bits.s n (fun (out' : (List Int)) (i' : Int) (a_1' : Tern) (b_1' : Tern) => it (EmR.no _) (ref05_Bits.C n) n (Code.go ref05_Bits.code [1, 1, 0, 1, 0, 0]) (blockK 0 (seqK (EmR.no _) (ref05_Bits.C n) n (Code.go ref05_Bits.code [1, 1, 1]) (bodyK (ref05_Bits.C n) f105 ref05_Bits.rs))) n ⟨[(2, .ptr 2 0 TTern []), (3, .ptr 3 0 TTern []), (5, .lst (.tip 100005 0) (.int .i64) (out')), (6, .dat (.int .i64) (i'))], [(100005, .tok 0), (2, .box 0 false (.dat TTern (a_1'))), (3, .box 0 false (.dat TTern (b_1')))]⟩) x.1 x.2 := by kernel_rfl
theorem ref05_Bits.eq (n : Nat) (x : pdens ref05_Bits.ps) : Vi.run (ref05_Bits.C n) n f105 ref05_Bits.ps ref05_Bits.rs x = ref05_Bits n x.1 x.2 :=
  (ref05_Bits.run0 n x).trans (congr1 (fun k0 => ref05_Bits.s n k0 x.1 x.2) (funext fun out' => funext fun i' => funext fun a_1' => funext fun b_1' => ref05_Bits.l0.eq n a_1' b_1' n out' i'))
theorem ref05_Bits.sound (n : Nat) : SoundE prog 105 (ref05_Bits.e n) :=
  soundE_of_run (C := ref05_Bits.C n) (n := n) (ref05_Bits.ok n) func105 (by kernel_rfl) (by kernel_rfl) (fun x r h => (ref05_Bits.eq n x).trans h)

def ref05_Fix.rs : List RTy := [.data TTern]
def ref05_Fix.ps : List PTy := [.data TTern, .data (.int .i64), .data .bool]
noncomputable def ref05_Fix.e (n : Nat) : Ent := ⟨ref05_Fix.ps, ref05_Fix.rs, fun x => ref05_Fix x.1 x.2.1 x.2.2⟩
noncomputable def ref05_Fix.C (n : Nat) : Ctx := { tab := tab, fts := fts, pts := pts, Γ := lookO [(93, ref05_Clean.e n), (94, ref02_Or.e n), (108, ref02_Bit.e n), (113, ref02_Less.e n)], Γc := lookO [], Γs := lookO [], Γm := lookO [], ntmps := f106.ntmps, keep := Vi.look ([], []) [], pins := [] }
theorem ref05_Fix.ok (n : Nat) : CtxOk prog (ref05_Fix.C n) := ⟨types, ftsOk_, ptsOk_, (fns_cons (ref05_Clean.sound n) (fns_cons (ref02_Or.sound n) (fns_cons (ref02_Bit.sound n) (fns_cons (ref02_Less.sound n) fns_nil)))), cls_nil, sqs_nil, ems_nil, mixed⟩
theorem ref05_Fix.eq (n : Nat) (x : pdens ref05_Fix.ps) : Vi.run (ref05_Fix.C n) n f106 ref05_Fix.ps ref05_Fix.rs x = ref05_Fix x.1 x.2.1 x.2.2 := by kernel_rfl
theorem ref05_Fix.sound (n : Nat) : SoundE prog 106 (ref05_Fix.e n) :=
  soundE_of_run (C := ref05_Fix.C n) (n := n) (ref05_Fix.ok n) func106 (by kernel_rfl) (by kernel_rfl) (fun x r h => (ref05_Fix.eq n x).trans h)

def ref07_List.rs : List RTy := [.fresh TCube]
def ref07_List.ps : List PTy := [.data TCube, .data TCube]
noncomputable def ref07_List.e (n : Nat) : Ent := ⟨ref07_List.ps, ref07_List.rs, fun x => ref07_List n x.1 x.2⟩
noncomputable def ref07_List.C (n : Nat) : Ctx := { tab := tab, fts := fts, pts := pts, Γ := lookO [(55, ref06_Meet.e n), (95, ref02_Has.e n), (104, ref06_Clean.e n), (105, ref05_Bits.e n), (106, ref05_Fix.e n)], Γc := lookO [], Γs := lookO [], Γm := lookO [], ntmps := f85.ntmps, keep := Vi.look ([], []) [(7, ([2, 3, 5, 8, 9], [2, 3, 5])), (11, ([2, 3, 5, 8, 9, 10, 11], [2, 3, 5]))], pins := [] }
theorem ref07_List.ok (n : Nat) : CtxOk prog (ref07_List.C n) := ⟨types, ftsOk_, ptsOk_, (fns_cons (ref06_Meet.sound n) (fns_cons (ref02_Has.sound n) (fns_cons (ref06_Clean.sound n) (fns_cons (ref05_Bits.sound n) (fns_cons (ref05_Fix.sound n) fns_nil))))), cls_nil, sqs_nil, ems_nil, mixed⟩
noncomputable def ref07_List.code : Code := bodyOf f85
theorem ref07_List.l1.step (n : Nat) (m0 : Nat) (m1 : Nat) (out_1 : (List Cube)) (f_1 : Int) (l : (List Int)) (i : Int) (a_2 : Cube) (b_2 : Cube) (left_1 : Cube) : it (EmR.no _) (ref07_List.C n) n (Code.go ref07_List.code [1, 1, 1, 1, 0, 1, 0, 0, 1, 0, 0, 1, 1, 0, 0]) (blockK 2 (blockK 1 (seqK (EmR.no _) (ref07_List.C n) n (Code.go ref07_List.code [1, 1, 1, 1, 0, 1, 0, 0, 1, 1]) (loopK (EmR.no _) (ref07_List.C n) n (Code.go ref07_List.code [1, 1, 1, 1, 0, 1, 0, 0]) (blockK 0 (seqK (EmR.no _) (ref07_List.C n) n (Code.go ref07_List.code [1, 1, 1, 1, 1]) (bodyK (ref07_List.C n) f85 ref07_List.rs))) m0)))) (m1 + 1) ⟨[(2, .ptr 2 0 TCube []), (3, .ptr 3 0 TCube []), (5, .ptr 5 0 TCube []), (8, .lst (.tip 100008 0) TCube out_1), (9, .dat (.int .i64) f_1), (10, .lst (.tip 100010 0) (.int .i64) l), (11, .dat (.int .i64) i)], [(100008, .tok 0), (100010, .tok 0), (2, .box 0 false (.dat TCube a_2)), (3, .box 0 false (.dat TCube b_2)), (5, .box 0 false (.dat TCube left_1))]⟩ = ref07_List.s1 n (fun (out_1' : (List Cube)) (i' : Int) (left_1' : Cube) => it (EmR.no _) (ref07_List.C n) n (Code.go ref07_List.code [1, 1, 1, 1, 0, 1, 0, 0, 1, 0, 0, 1, 1, 0, 0]) (blockK 2 (blockK 1 (seqK (EmR.no _) (ref07_List.C n) n (Code.go ref07_List.code [1, 1, 1, 1, 0, 1, 0, 0, 1, 1]) (loopK (EmR.no _) (ref07_List.C n) n (Code.go ref07_List.code [1, 1, 1, 1, 0, 1, 0, 0]) (blockK 0 (seqK (EmR.no _) (ref07_List.C n) n (Code.go ref07_List.code [1, 1, 1, 1, 1]) (bodyK (ref07_List.C n) f85 ref07_List.rs))) m0)))) m1 ⟨[(2, .ptr 2 0 TCube []), (3, .ptr 3 0 TCube []), (5, .ptr 5 0 TCube []), (8, .lst (.tip 100008 0) TCube (out_1')), (9, .dat (.int .i64) f_1), (10, .lst (.tip 100010 0) (.int .i64) l), (11, .dat (.int .i64) (i'))], [(100008, .tok 0), (100010, .tok 0), (2, .box 0 false (.dat TCube a_2)), (3, .box 0 false (.dat TCube b_2)), (5, .box 0 false (.dat TCube (left_1')))]⟩) (fun (out' : (List Cube)) (f' : Int) (a_1' : Cube) (b_1' : Cube) (left' : Cube) => it (EmR.no _) (ref07_List.C n) n (Code.go ref07_List.code [1, 1, 1, 1, 0, 1, 0, 0]) (blockK 0 (seqK (EmR.no _) (ref07_List.C n) n (Code.go ref07_List.code [1, 1, 1, 1, 1]) (bodyK (ref07_List.C n) f85 ref07_List.rs))) m0 ⟨[(2, .ptr 2 0 TCube []), (3, .ptr 3 0 TCube []), (5, .ptr 5 0 TCube []), (8, .lst (.tip 100008 0) TCube (out')), (9, .dat (.int .i64) (f'))], [(100008, .tok 0), (2, .box 0 false (.dat TCube (a_1'))), (3, .box 0 false (.dat TCube (b_1'))), (5, .box 0 false (.dat TCube (left')))]⟩) out_1 f_1 l i a_2 b_2 left_1 := by kernel_rfl
theorem ref07_List.l1.eq (n : Nat) (m0 : Nat) (f_1 : Int) (l : (List Int)) (a_2 : Cube) (b_2 : Cube) : ∀ (m1 : Nat) (out_1 : (List Cube)) (i : Int) (left_1 : Cube), it (EmR.no _) (ref07_List.C n) n (Code.go ref07_List.code [1, 1, 1, 1, 0, 1, 0, 0, 1, 0, 0, 1, 1, 0, 0]) (blockK 2 (blockK 1 (seqK (EmR.no _) (ref07_List.C n) n (Code.go ref07_List.code [1, 1, 1, 1, 0, 1, 0, 0, 1, 1]) (loopK (EmR.no _) (ref07_List.C n) n (Code.go ref07_List.code [1, 1, 1, 1, 0, 1, 0, 0]) (blockK 0 (seqK (EmR.no _) (ref07_List.C n) n (Code.go ref07_List.code [1, 1, 1, 1, 1]) (bodyK (ref07_List.C n) f85 ref07_List.rs))) m0)))) m1 ⟨[(2, .ptr 2 0 TCube []), (3, .ptr 3 0 TCube []), (5, .ptr 5 0 TCube []), (8, .lst (.tip 100008 0) TCube out_1), (9, .dat (.int .i64) f_1), (10, .lst (.tip 100010 0) (.int .i64) l), (11, .dat (.int .i64) i)], [(100008, .tok 0), (100010, .tok 0), (2, .box 0 false (.dat TCube a_2)), (3, .box 0 false (.dat TCube b_2)), (5, .box 0 false (.dat TCube left_1))]⟩ = ref07_List.l1 n f_1 l a_2 b_2 (fun (out'' : (List Cube)) (f'' : Int) (a_1'' : Cube) (b_1'' : Cube) (left'' : Cube) => it (EmR.no _) (ref07_List.C n) n (Code.go ref07_List.code [1, 1, 1, 1, 0, 1, 0, 0]) (blockK 0 (seqK (EmR.no _) (ref07_List.C n) n (Code.go ref07_List.code [1, 1, 1, 1, 1]) (bodyK (ref07_List.C n) f85 ref07_List.rs))) m0 ⟨[(2, .ptr 2 0 TCube []), (3, .ptr 3 0 TCube []), (5, .ptr 5 0 TCube []), (8, .lst (.tip 100008 0) TCube (out'')), (9, .dat (.int .i64) (f''))], [(100008, .tok 0), (2, .box 0 false (.dat TCube (a_1''))), (3, .box 0 false (.dat TCube (b_1''))), (5, .box 0 false (.dat TCube (left'')))]⟩) m1 out_1 i left_1
  | 0, _, _, _ => rfl
  | m1 + 1, out_1, i, left_1 =>
    (ref07_List.l1.step n m0 m1 out_1 f_1 l i a_2 b_2 left_1).trans (congr2 (fun k1 k0 => ref07_List.s1 n k1 k0 out_1 f_1 l i a_2 b_2 left_1) (funext fun out_1' => funext fun i' => funext fun left_1' => ref07_List.l1.eq n m0 f_1 l a_2 b_2 m1 out_1' i' left_1') rfl)
theorem ref07_List.l0.step (n : Nat) (m0 : Nat) (out : (List Cube)) (f : Int) (a_1 : Cube) (b_1 : Cube) (left : Cube) : it (EmR.no _) (ref07_List.C n) n (Code.go ref07_List.code [1, 1, 1, 1, 0, 1, 0, 0]) (blockK 0 (seqK (EmR.no _) (ref07_List.C n) n (Code.go ref07_List.code [1, 1, 1, 1, 1]) (bodyK (ref07_List.C n) f85 ref07_List.rs))) (m0 + 1) ⟨[(2, .ptr 2 0 TCube []), (3, .ptr 3 0 TCube []), (5, .ptr 5 0 TCube []), (8, .lst (.tip 100008 0) TCube out), (9, .dat (.int .i64) f)], [(100008, .tok 0), (2, .box 0 false (.dat TCube a_1)), (3, .box 0 false (.dat TCube b_1)), (5, .box 0 false (.dat TCube left))]⟩ = ref07_List.s0 n (fun (out_1' : (List Cube)) (f_1' : Int) (l' : (List Int)) (i' : Int) (a_2' : Cube) (b_2' : Cube) (left_1' : Cube) => it (EmR.no _) (ref07_List.C n) n (Code.go ref07_List.code [1, 1, 1, 1, 0, 1, 0, 0, 1, 0, 0, 1, 1, 0, 0]) (blockK 2 (blockK 1 (seqK (EmR.no _) (ref07_List.C n) n (Code.go ref07_List.code [1, 1, 1, 1, 0, 1, 0, 0, 1, 1]) (loopK (EmR.no _) (ref07_List.C n) n (Code.go ref07_List.code [1, 1, 1, 1, 0, 1, 0, 0]) (blockK 0 (seqK (EmR.no _) (ref07_List.C n) n (Code.go ref07_List.code [1, 1, 1, 1, 1]) (bodyK (ref07_List.C n) f85 ref07_List.rs))) m0)))) n ⟨[(2, .ptr 2 0 TCube []), (3, .ptr 3 0 TCube []), (5, .ptr 5 0 TCube []), (8, .lst (.tip 100008 0) TCube (out_1')), (9, .dat (.int .i64) (f_1')), (10, .lst (.tip 100010 0) (.int .i64) (l')), (11, .dat (.int .i64) (i'))], [(100008, .tok 0), (100010, .tok 0), (2, .box 0 false (.dat TCube (a_2'))), (3, .box 0 false (.dat TCube (b_2'))), (5, .box 0 false (.dat TCube (left_1')))]⟩) out f a_1 b_1 left := by kernel_rfl
theorem ref07_List.l0.eq (n : Nat) (a_1 : Cube) (b_1 : Cube) : ∀ (m0 : Nat) (out : (List Cube)) (f : Int) (left : Cube), it (EmR.no _) (ref07_List.C n) n (Code.go ref07_List.code [1, 1, 1, 1, 0, 1, 0, 0]) (blockK 0 (seqK (EmR.no _) (ref07_List.C n) n (Code.go ref07_List.code [1, 1, 1, 1, 1]) (bodyK (ref07_List.C n) f85 ref07_List.rs))) m0 ⟨[(2, .ptr 2 0 TCube []), (3, .ptr 3 0 TCube []), (5, .ptr 5 0 TCube []), (8, .lst (.tip 100008 0) TCube out), (9, .dat (.int .i64) f)], [(100008, .tok 0), (2, .box 0 false (.dat TCube a_1)), (3, .box 0 false (.dat TCube b_1)), (5, .box 0 false (.dat TCube left))]⟩ = ref07_List.l0 n a_1 b_1 m0 out f left
  | 0, _, _, _ => rfl
  | m0 + 1, out, f, left =>
    (ref07_List.l0.step n m0 out f a_1 b_1 left).trans (congr1 (fun k1 => ref07_List.s0 n k1 out f a_1 b_1 left) (funext fun out_1' => funext fun f_1' => funext fun l' => funext fun i' => funext fun a_2' => funext fun b_2' => funext fun left_1' => (ref07_List.l1.eq n m0 f_1' l' a_2' b_2' n out_1' i' left_1').trans (congr1 (fun kk => ref07_List.l1 n f_1' l' a_2' b_2' kk n out_1' i' left_1') (funext fun out'' => funext fun f'' => funext fun a_1'' => funext fun b_1'' => funext fun left'' => ref07_List.l0.eq n a_1'' b_1'' m0 out'' f'' left''))))
theorem ref07_List.run0 (n : Nat) (x : pdens ref07_List.ps) : Vi.run (ref07_List.C n) n f85 ref07_List.ps ref07_List.rs x = ref07_List.s n (fun (out' : (List Cube)) (f' : Int) (a_1' : Cube) (b_1' : Cube) (left' : Cube) => it (EmR.no _) (ref07_List.C n) n (Code.go ref07_List.code [1, 1, 1, 1, 0, 1, 0, 0]) (blockK 0 (seqK (EmR.no _) (ref07_List.C n) n (Code.go ref07_List.code [1, 1, 1, 1, 1]) (bodyK (ref07_List.C n) f85 ref07_List.rs))) n ⟨[(2, .ptr 2 0 TCube []), (3, .ptr 3 0 TCube []), (5, .ptr 5 0 TCube []), (8, .lst (.tip 100008 0) TCube (out')), (9, .dat (.int .i64) (f'))], [(100008, .tok 0), (2, .box 0 false (.dat TCube (a_1'))), (3, .box 0 false (.dat TCube (b_1'))), (5, .box 0 false (.dat TCube (left')))]⟩) x.1 x.2 := by kernel_rfl
theorem ref07_List.eq (n : Nat) (x : pdens ref07_List.ps) : Vi.run (ref07_List.C n) n f85 ref07_List.ps ref07_List.rs x = ref07_List n x.1 x.2 :=
  (ref07_List.run0 n x).trans (congr1 (fun k0 => ref07_List.s n k0 x.1 x.2) (funext fun out' => funext fun f' => funext fun a_1' => funext fun b_1' => funext fun left' => ref07_List.l0.eq n a_1' b_1' n out' f' left'))
theorem ref07_List.sound (n : Nat) : SoundE prog 85 (ref07_List.e n) :=
  soundE_of_run (C := ref07_List.C n) (n := n) (ref07_List.ok n) func85 (by kernel_rfl) (by kernel_rfl) (fun x r h => (ref07_List.eq n x).trans h)

def ref08_look.rs : List RTy := [.data THeader, .data .bool, .data (.int .i64)]
def ref08_look.ps : List PTy := [.data TCube, .data (.slc TCube), .data (.int .i64), .data .bool]
noncomputable def ref08_look.e (n k : Nat) : Ent := ⟨ref08_look.ps, ref08_look.rs, fun x => ref08_look n k x.1 x.2.1 x.2.2.1 x.2.2.2⟩
noncomputable def ref08_look.C (n k : Nat) : Ctx := { tab := tab, fts := fts, pts := pts, Γ := lookO [(55, ref06_Meet.e n), (66, ref08_look.e n k), (83, ref06_Within.e n), (84, ref06_Pick.e n), (85, ref07_List.e n)], Γc := lookO [], Γs := lookO [], Γm := lookO [], ntmps := f66.ntmps, keep := Vi.look ([], []) [(7, ([1, 2, 3, 4, 8, 11, 12], [4, 8])), (18, ([1, 2, 3, 8, 11, 15, 16], [8]))], pins := [] }
theorem ref08_look.ok (n k : Nat) (hrec : SoundE prog 66 (ref08_look.e n k)) : CtxOk prog (ref08_look.C n k) := ⟨types, ftsOk_, ptsOk_, (fns_cons (ref06_Meet.sound n) (fns_cons hrec (fns_cons (ref06_Within.sound n) (fns_cons (ref06_Pick.sound n) (fns_cons (ref07_List.sound n) fns_nil))))), cls_nil, sqs_nil, ems_nil, mixed⟩
noncomputable def ref08_look.code : Code := bodyOf f66
theorem ref08_look.l1.step (n k : Nat) (m1 : Nat) (l_2 : (List Cube)) (left_2 : Int) (free_2 : Bool) (first_1 : Int) (parts : (List Cube)) (i_1 : Int) (v8_1 : Header) : it (EmR.no _) (ref08_look.C n k) n (Code.go ref08_look.code [1, 1, 1, 1, 1, 1, 1, 0, 1, 0, 0]) (blockK 2 (seqK (EmR.no _) (ref08_look.C n k) n (Code.go ref08_look.code [1, 1, 1, 1, 1, 1, 1, 1]) (bodyK (ref08_look.C n k) f66 ref08_look.rs))) (m1 + 1) ⟨[(1, .dat (.slc TCube) l_2), (2, .dat (.int .i64) left_2), (3, .dat .bool free_2), (8, .ptr 8 0 THeader []), (11, .dat (.int .i64) first_1), (15, .lst (.tip 100015 0) TCube parts), (16, .dat (.int .i64) i_1)], [(100015, .tok 0), (8, .box 0 false (.dat THeader v8_1))]⟩ = ref08_look.s1 n (ref08_look n k) (fun (left_2' : Int) (i_1' : Int) => it (EmR.no _) (ref08_look.C n k) n (Code.go ref08_look.code [1, 1, 1, 1, 1, 1, 1, 0, 1, 0, 0]) (blockK 2 (seqK (EmR.no _) (ref08_look.C n k) n (Code.go ref08_look.code [1, 1, 1, 1, 1, 1, 1, 1]) (bodyK (ref08_look.C n k) f66 ref08_look.rs))) m1 ⟨[(1, .dat (.slc TCube) l_2), (2, .dat (.int .i64) (left_2')), (3, .dat .bool free_2), (8, .ptr 8 0 THeader []), (11, .dat (.int .i64) first_1), (15, .lst (.tip 100015 0) TCube parts), (16, .dat (.int .i64) (i_1'))], [(100015, .tok 0), (8, .box 0 false (.dat THeader v8_1))]⟩) l_2 left_2 free_2 first_1 parts i_1 v8_1 := by kernel_rfl
theorem ref08_look.l1.eq (n k : Nat) (l_2 : (List Cube)) (free_2 : Bool) (first_1 : Int) (parts : (List Cube)) (v8_1 : Header) : ∀ (m1 : Nat) (left_2 : Int) (i_1 : Int), it (EmR.no _) (ref08_look.C n k) n (Code.go ref08_look.code [1, 1, 1, 1, 1, 1, 1, 0, 1, 0, 0]) (blockK 2 (seqK (EmR.no _) (ref08_look.C n k) n (Code.go ref08_look.code [1, 1, 1, 1, 1, 1, 1, 1]) (bodyK (ref08_look.C n k) f66 ref08_look.rs))) m1 ⟨[(1, .dat (.slc TCube) l_2), (2, .dat (.int .i64) left_2), (3, .dat .bool free_2), (8, .ptr 8 0 THeader []), (11, .dat (.int .i64) first_1), (15, .lst (.tip 100015 0) TCube parts), (16, .dat (.int .i64) i_1)], [(100015, .tok 0), (8, .box 0 false (.dat THeader v8_1))]⟩ = ref08_look.l1 n (ref08_look n k) l_2 free_2 first_1 parts v8_1 m1 left_2 i_1
  | 0, _, _ => rfl
  | m1 + 1, left_2, i_1 =>
    (ref08_look.l1.step n k m1 l_2 left_2 free_2 first_1 parts i_1 v8_1).trans (congr1 (fun k1 => ref08_look.s1 n (ref08_look n k) k1 l_2 left_2 free_2 first_1 parts i_1 v8_1) (funext fun left_2' => funext fun i_1' => ref08_look.l1.eq n k l_2 free_2 first_1 parts v8_1 m1 left_2' i_1'))
theorem ref08_look.l0.step (n k : Nat) (m0 : Nat) (l_1 : (List Cube)) (left_1 : Int) (free_1 : Bool) (first : Int) (i : Int) (c_1 : Cube) (v8 : Header) : it (EmR.no _) (ref08_look.C n k) n (Code.go ref08_look.code [1, 1, 1, 1, 0, 1, 0, 0]) (blockK 0 (seqK (EmR.no _) (ref08_look.C n k) n (Code.go ref08_look.code [1, 1, 1, 1, 1]) (bodyK (ref08_look.C n k) f66 ref08_look.rs))) (m0 + 1) ⟨[(1, .dat (.slc TCube) l_1), (2, .dat (.int .i64) left_1), (3, .dat .bool free_1), (4, .ptr 4 0 TCube []), (8, .ptr 8 0 THeader []), (11, .dat (.int .i64) first), (12, .dat (.int .i64) i)], [(4, .box 0 false (.dat TCube c_1)), (8, .box 0 false (.dat THeader v8))]⟩ = ref08_look.s0 n (ref08_look n k) (fun (first' : Int) (i' : Int) => it (EmR.no _) (ref08_look.C n k) n (Code.go ref08_look.code [1, 1, 1, 1, 0, 1, 0, 0]) (blockK 0 (seqK (EmR.no _) (ref08_look.C n k) n (Code.go ref08_look.code [1, 1, 1, 1, 1]) (bodyK (ref08_look.C n k) f66 ref08_look.rs))) m0 ⟨[(1, .dat (.slc TCube) l_1), (2, .dat (.int .i64) left_1), (3, .dat .bool free_1), (4, .ptr 4 0 TCube []), (8, .ptr 8 0 THeader []), (11, .dat (.int .i64) (first')), (12, .dat (.int .i64) (i'))], [(4, .box 0 false (.dat TCube c_1)), (8, .box 0 false (.dat THeader v8))]⟩) (fun (l_2' : (List Cube)) (left_2' : Int) (free_2' : Bool) (first_1' : Int) (parts' : (List Cube)) (i_1' : Int) (v8_1' : Header) => it (EmR.no _) (ref08_look.C n k) n (Code.go ref08_look.code [1, 1, 1, 1, 1, 1, 1, 0, 1, 0, 0]) (blockK 2 (seqK (EmR.no _) (ref08_look.C n k) n (Code.go ref08_look.code [1, 1, 1, 1, 1, 1, 1, 1]) (bodyK (ref08_look.C n k) f66 ref08_look.rs))) n ⟨[(1, .dat (.slc TCube) (l_2')), (2, .dat (.int .i64) (left_2')), (3, .dat .bool (free_2')), (8, .ptr 8 0 THeader []), (11, .dat (.int .i64) (first_1')), (15, .lst (.tip 100015 0) TCube (parts')), (16, .dat (.int .i64) (i_1'))], [(100015, .tok 0), (8, .box 0 false (.dat THeader (v8_1')))]⟩) l_1 left_1 free_1 first i c_1 v8 := by kernel_rfl
theorem ref08_look.l0.eq (n k : Nat) (l_1 : (List Cube)) (left_1 : Int) (free_1 : Bool) (c_1 : Cube) (v8 : Header) : ∀ (m0 : Nat) (first : Int) (i : Int), it (EmR.no _) (ref08_look.C n k) n (Code.go ref08_look.code [1, 1, 1, 1, 0, 1, 0, 0]) (blockK 0 (seqK (EmR.no _) (ref08_look.C n k) n (Code.go ref08_look.code [1, 1, 1, 1, 1]) (bodyK (ref08_look.C n k) f66 ref08_look.rs))) m0 ⟨[(1, .dat (.slc TCube) l_1), (2, .dat (.int .i64) left_1), (3, .dat .bool free_1), (4, .ptr 4 0 TCube []), (8, .ptr 8 0 THeader []), (11, .dat (.int .i64) first), (12, .dat (.int .i64) i)], [(4, .box 0 false (.dat TCube c_1)), (8, .box 0 false (.dat THeader v8))]⟩ = ref08_look.l0 n (ref08_look n k) l_1 left_1 free_1 c_1 v8 m0 first i
  | 0, _, _ => rfl
  | m0 + 1, first, i =>
    (ref08_look.l0.step n k m0 l_1 left_1 free_1 first i c_1 v8).trans (congr2 (fun k0 k1 => ref08_look.s0 n (ref08_look n k) k0 k1 l_1 left_1 free_1 first i c_1 v8) (funext fun first' => funext fun i' => ref08_look.l0.eq n k l_1 left_1 free_1 c_1 v8 m0 first' i') (funext fun l_2' => funext fun left_2' => funext fun free_2' => funext fun first_1' => funext fun parts' => funext fun i_1' => funext fun v8_1' => ref08_look.l1.eq n k l_2' free_2' first_1' parts' v8_1' n left_2' i_1'))
theorem ref08_look.run0 (n k : Nat) (x : pdens ref08_look.ps) : Vi.run (ref08_look.C n k) n f66 ref08_look.ps ref08_look.rs x = ref08_look.s n (ref08_look n k) (fun (l_1' : (List Cube)) (left_1' : Int) (free_1' : Bool) (first' : Int) (i' : Int) (c_1' : Cube) (v8' : Header) => it (EmR.no _) (ref08_look.C n k) n (Code.go ref08_look.code [1, 1, 1, 1, 0, 1, 0, 0]) (blockK 0 (seqK (EmR.no _) (ref08_look.C n k) n (Code.go ref08_look.code [1, 1, 1, 1, 1]) (bodyK (ref08_look.C n k) f66 ref08_look.rs))) n ⟨[(1, .dat (.slc TCube) (l_1')), (2, .dat (.int .i64) (left_1')), (3, .dat .bool (free_1')), (4, .ptr 4 0 TCube []), (8, .ptr 8 0 THeader []), (11, .dat (.int .i64) (first')), (12, .dat (.int .i64) (i'))], [(4, .box 0 false (.dat TCube (c_1'))), (8, .box 0 false (.dat THeader (v8')))]⟩) x.1 x.2.1 x.2.2.1 x.2.2.2 := by kernel_rfl
theorem ref08_look.eq (n k : Nat) (x : pdens ref08_look.ps) : Vi.run (ref08_look.C n k) n f66 ref08_look.ps ref08_look.rs x = ref08_look n (k + 1) x.1 x.2.1 x.2.2.1 x.2.2.2 :=
  (ref08_look.run0 n k x).trans (congr1 (fun k0 => ref08_look.s n (ref08_look n k) k0 x.1 x.2.1 x.2.2.1 x.2.2.2) (funext fun l_1' => funext fun left_1' => funext fun free_1' => funext fun first' => funext fun i' => funext fun c_1' => funext fun v8' => ref08_look.l0.eq n k l_1' left_1' free_1' c_1' v8' n first' i'))
theorem ref08_look.sound (n : Nat) : ∀ k, SoundE prog 66 (ref08_look.e n k)
  | 0 => soundE_none func66 (by kernel_rfl) (by kernel_rfl) (fun _ => rfl)
  | k + 1 => soundE_of_run (C := ref08_look.C n k) (n := n) (ref08_look.ok n k (ref08_look.sound n k)) func66 (by kernel_rfl) (by kernel_rfl) (fun x r h => (ref08_look.eq n k x).trans h)

def ref08_Look.rs : List RTy := [.data THeader, .data .bool, .data (.int .i64)]
def ref08_Look.ps : List PTy := [.data TCube, .data (.slc TCube), .data (.int .i64)]
noncomputable def ref08_Look.e (n : Nat) : Ent := ⟨ref08_Look.ps, ref08_Look.rs, fun x => ref08_Look n x.1 x.2.1 x.2.2⟩
noncomputable def ref08_Look.C (n : Nat) : Ctx := { tab := tab, fts := fts, pts := pts, Γ := lookO [(66, ref08_look.e n n)], Γc := lookO [], Γs := lookO [], Γm := lookO [], ntmps := f45.ntmps, keep := Vi.look ([], []) [], pins := [] }
theorem ref08_Look.ok (n : Nat) : CtxOk prog (ref08_Look.C n) := ⟨types, ftsOk_, ptsOk_, (fns_cons (ref08_look.sound n n) fns_nil), cls_nil, sqs_nil, ems_nil, mixed⟩
theorem ref08_Look.eq (n : Nat) (x : pdens ref08_Look.ps) : Vi.run (ref08_Look.C n) n f45 ref08_Look.ps ref08_Look.rs x = ref08_Look n x.1 x.2.1 x.2.2 := by kernel_rfl
theorem ref08_Look.sound (n : Nat) : SoundE prog 45 (ref08_Look.e n) :=
  soundE_of_run (C := ref08_Look.C n) (n := n) (ref08_Look.ok n) func45 (by kernel_rfl) (by kernel_rfl) (fun x r h => (ref08_Look.eq n x).trans h)

def ref34_Look.rs : List RTy := [.data THeader, .data .bool, .data (.int .i64)]
def ref34_Look.ps : List PTy := [.data (.slc TRule), .data (.int .i64), .data (.int .i64)]
noncomputable def ref34_Look.e (n : Nat) : Ent := ⟨ref34_Look.ps, ref34_Look.rs, fun x => ref34_Look n x.1 x.2.1 x.2.2⟩
noncomputable def ref34_Look.C (n : Nat) : Ctx := { tab := tab, fts := fts, pts := pts, Γ := lookO [(43, ref34_Cubes.e n), (45, ref08_Look.e n)], Γc := lookO [], Γs := lookO [], Γm := lookO [], ntmps := f15.ntmps, keep := Vi.look ([], []) [], pins := [] }
theorem ref34_Look.ok (n : Nat) : CtxOk prog (ref34_Look.C n) := ⟨types, ftsOk_, ptsOk_, (fns_cons (ref34_Cubes.sound n) (fns_cons (ref08_Look.sound n) fns_nil)), cls_nil, sqs_nil, ems_nil, mixed⟩
theorem ref34_Look.eq (n : Nat) (x : pdens ref34_Look.ps) : Vi.run (ref34_Look.C n) n f15 ref34_Look.ps ref34_Look.rs x = ref34_Look n x.1 x.2.1 x.2.2 := by kernel_rfl
theorem ref34_Look.sound (n : Nat) : SoundE prog 15 (ref34_Look.e n) :=
  soundE_of_run (C := ref34_Look.C n) (n := n) (ref34_Look.ok n) func15 (by kernel_rfl) (by kernel_rfl) (fun x r h => (ref34_Look.eq n x).trans h)

def law34_ShadowLooks.rs : List RTy := [.data .bool]
def law34_ShadowLooks.ps : List PTy := [.data (.slc TRule), .data (.int .i64), .data (.int .i64)]
noncomputable def law34_ShadowLooks.e (n : Nat) : Ent := ⟨law34_ShadowLooks.ps, law34_ShadowLooks.rs, fun x => law34_ShadowLooks n x.1 x.2.1 x.2.2⟩
noncomputable def law34_ShadowLooks.C (n : Nat) : Ctx := { tab := tab, fts := fts, pts := pts, Γ := lookO [(12, law34_light.e n), (13, law34_awake.e n), (14, shadow_Look.e n), (15, ref34_Look.e n)], Γc := lookO [], Γs := lookO [], Γm := lookO [], ntmps := f3.ntmps, keep := Vi.look ([], []) [], pins := [] }
theorem law34_ShadowLooks.ok (n : Nat) : CtxOk prog (law34_ShadowLooks.C n) := ⟨types, ftsOk_, ptsOk_, (fns_cons (law34_light.sound n) (fns_cons (law34_awake.sound n) (fns_cons (shadow_Look.sound n) (fns_cons (ref34_Look.sound n) fns_nil)))), cls_nil, sqs_nil, ems_nil, mixed⟩
theorem law34_ShadowLooks.eq (n : Nat) (x : pdens law34_ShadowLooks.ps) : Vi.run (law34_ShadowLooks.C n) n f3 law34_ShadowLooks.ps law34_ShadowLooks.rs x = law34_ShadowLooks n x.1 x.2.1 x.2.2 := by kernel_rfl
theorem law34_ShadowLooks.sound (n : Nat) : SoundE prog 3 (law34_ShadowLooks.e n) :=
  soundE_of_run (C := law34_ShadowLooks.C n) (n := n) (law34_ShadowLooks.ok n) func3 (by kernel_rfl) (by kernel_rfl) (fun x r h => (law34_ShadowLooks.eq n x).trans h)
def law34_ShadowLooks.g (n : Nat) (x : pdens (law34_ShadowLooks.τs.map PTy.data)) : Option Bool := law34_ShadowLooks n x.1 x.2.1 x.2.2
theorem law34_ShadowLooks.soundN (n : Nat) : SoundE prog 3 ⟨law34_ShadowLooks.τs.map PTy.data, [.data .bool], law34_ShadowLooks.g n⟩ := law34_ShadowLooks.sound n

def law34_ShadowEnough.rs : List RTy := [.data .bool]
def law34_ShadowEnough.ps : List PTy := [.data (.slc TRule), .data (.int .u16)]
noncomputable def law34_ShadowEnough.e (n : Nat) : Ent := ⟨law34_ShadowEnough.ps, law34_ShadowEnough.rs, fun x => law34_ShadowEnough n x.1 x.2⟩
noncomputable def law34_ShadowEnough.C (n : Nat) : Ctx := { tab := tab, fts := fts, pts := pts, Γ := lookO [(13, law34_awake.e n), (16, shadow_Bound.e n), (17, plain_Rules.e n), (18, shadow_Drop.e n)], Γc := lookO [], Γs := lookO [], Γm := lookO [], ntmps := f4.ntmps, keep := Vi.look ([], []) [], pins := [] }
theorem law34_ShadowEnough.ok (n : Nat) : CtxOk prog (law34_ShadowEnough.C n) := ⟨types, ftsOk_, ptsOk_, (fns_cons (law34_awake.sound n) (fns_cons (shadow_Bound.sound n) (fns_cons (plain_Rules.sound n) (fns_cons (shadow_Drop.sound n) fns_nil)))), cls_nil, sqs_nil, ems_nil, mixed⟩
theorem law34_ShadowEnough.eq (n : Nat) (x : pdens law34_ShadowEnough.ps) : Vi.run (law34_ShadowEnough.C n) n f4 law34_ShadowEnough.ps law34_ShadowEnough.rs x = law34_ShadowEnough n x.1 x.2 := by kernel_rfl
theorem law34_ShadowEnough.sound (n : Nat) : SoundE prog 4 (law34_ShadowEnough.e n) :=
  soundE_of_run (C := law34_ShadowEnough.C n) (n := n) (law34_ShadowEnough.ok n) func4 (by kernel_rfl) (by kernel_rfl) (fun x r h => (law34_ShadowEnough.eq n x).trans h)
def law34_ShadowEnough.g (n : Nat) (x : pdens (law34_ShadowEnough.τs.map PTy.data)) : Option Bool := law34_ShadowEnough n x.1 x.2
theorem law34_ShadowEnough.soundN (n : Nat) : SoundE prog 4 ⟨law34_ShadowEnough.τs.map PTy.data, [.data .bool], law34_ShadowEnough.g n⟩ := law34_ShadowEnough.sound n

def cube_Has.rs : List RTy := [.data .bool]
def cube_Has.ps : List PTy := [.data TCube, .data THeader]
noncomputable def cube_Has.e (n : Nat) : Ent := ⟨cube_Has.ps, cube_Has.rs, fun x => cube_Has n x.1 x.2⟩
noncomputable def cube_Has.C (n : Nat) : Ctx := { tab := tab, fts := fts, pts := pts, Γ := lookO [(62, tern_Has.e n)], Γc := lookO [], Γs := lookO [], Γm := lookO [], ntmps := f30.ntmps, keep := Vi.look ([], []) [(2, ([3, 7, 8], [3]))], pins := [] }
theorem cube_Has.ok (n : Nat) : CtxOk prog (cube_Has.C n) := ⟨types, ftsOk_, ptsOk_, (fns_cons (tern_Has.sound n) fns_nil), cls_nil, sqs_nil, ems_nil, mixed⟩
noncomputable def cube_Has.code : Code := bodyOf f30
theorem cube_Has.l0.step (n : Nat) (m0 : Nat) (v7 : Cube) (v8 : Int) (h_1 : Header) : it (EmR.no _) (cube_Has.C n) n (Code.go cube_Has.code [1, 0, 1, 0, 0]) (blockK 0 (seqK (EmR.no _) (cube_Has.C n) n (Code.go cube_Has.code [1, 1]) (bodyK (cube_Has.C n) f30 cube_Has.rs))) (m0 + 1) ⟨[(3, .ptr 3 0 THeader []), (7, .dat TCube v7), (8, .dat (.int .i64) v8)], [(3, .box 0 false (.dat THeader h_1))]⟩ = cube_Has.s0 n (fun (v8' : Int) => it (EmR.no _) (cube_Has.C n) n (Code.go cube_Has.code [1, 0, 1, 0, 0]) (blockK 0 (seqK (EmR.no _) (cube_Has.C n) n (Code.go cube_Has.code [1, 1]) (bodyK (cube_Has.C n) f30 cube_Has.rs))) m0 ⟨[(3, .ptr 3 0 THeader []), (7, .dat TCube v7), (8, .dat (.int .i64) (v8'))], [(3, .box 0 false (.dat THeader h_1))]⟩) v7 v8 h_1 := by kernel_rfl
theorem cube_Has.l0.eq (n : Nat) (v7 : Cube) (h_1 : Header) : ∀ (m0 : Nat) (v8 : Int), it (EmR.no _) (cube_Has.C n) n (Code.go cube_Has.code [1, 0, 1, 0, 0]) (blockK 0 (seqK (EmR.no _) (cube_Has.C n) n (Code.go cube_Has.code [1, 1]) (bodyK (cube_Has.C n) f30 cube_Has.rs))) m0 ⟨[(3, .ptr 3 0 THeader []), (7, .dat TCube v7), (8, .dat (.int .i64) v8)], [(3, .box 0 false (.dat THeader h_1))]⟩ = cube_Has.l0 n v7 h_1 m0 v8
  | 0, _ => rfl
  | m0 + 1, v8 =>
    (cube_Has.l0.step n m0 v7 v8 h_1).trans (congr1 (fun k0 => cube_Has.s0 n k0 v7 v8 h_1) (funext fun v8' => cube_Has.l0.eq n v7 h_1 m0 v8'))
theorem cube_Has.run0 (n : Nat) (x : pdens cube_Has.ps) : Vi.run (cube_Has.C n) n f30 cube_Has.ps cube_Has.rs x = cube_Has.s n (fun (v7' : Cube) (v8' : Int) (h_1' : Header) => it (EmR.no _) (cube_Has.C n) n (Code.go cube_Has.code [1, 0, 1, 0, 0]) (blockK 0 (seqK (EmR.no _) (cube_Has.C n) n (Code.go cube_Has.code [1, 1]) (bodyK (cube_Has.C n) f30 cube_Has.rs))) n ⟨[(3, .ptr 3 0 THeader []), (7, .dat TCube (v7')), (8, .dat (.int .i64) (v8'))], [(3, .box 0 false (.dat THeader (h_1')))]⟩) x.1 x.2 := by kernel_rfl
theorem cube_Has.eq (n : Nat) (x : pdens cube_Has.ps) : Vi.run (cube_Has.C n) n f30 cube_Has.ps cube_Has.rs x = cube_Has n x.1 x.2 :=
  (cube_Has.run0 n x).trans (congr1 (fun k0 => cube_Has.s n k0 x.1 x.2) (funext fun v7' => funext fun v8' => funext fun h_1' => cube_Has.l0.eq n v7' h_1' n v8'))
theorem cube_Has.sound (n : Nat) : SoundE prog 30 (cube_Has.e n) :=
  soundE_of_run (C := cube_Has.C n) (n := n) (cube_Has.ok n) func30 (by kernel_rfl) (by kernel_rfl) (fun x r h => (cube_Has.eq n x).trans h)

def law34_first_1.rs : List Ty := [.bool]
def law34_first_1.ps : List Ty := [TRule]
def law34_first_1.caps : List PTy := [.cptr THeader]
noncomputable def law34_first_1.e (n : Nat) : Cl := ⟨law34_first_1.ps, law34_first_1.caps, law34_first_1.rs, fun x c => law34_first_1 n x c⟩
noncomputable def law34_first_1.C (n : Nat) : Ctx := { tab := tab, fts := fts, pts := pts, Γ := lookO [(30, cube_Has.e n)], Γc := lookO [], Γs := lookO [], Γm := lookO [], ntmps := f60.ntmps, keep := Vi.look ([], []) [], pins := [] }
theorem law34_first_1.ok (n : Nat) : CtxOk prog (law34_first_1.C n) := ⟨types, ftsOk_, ptsOk_, (fns_cons (cube_Has.sound n) fns_nil), cls_nil, sqs_nil, ems_nil, mixed⟩
theorem law34_first_1.eq (n : Nat) (x : dens law34_first_1.ps) (c : pdens law34_first_1.caps) : Vi.runC (law34_first_1.C n) n f60 law34_first_1.ps law34_first_1.caps law34_first_1.rs x c = law34_first_1 n x c := by kernel_rfl
theorem law34_first_1.sound (n : Nat) : SoundC prog 60 (law34_first_1.e n) :=
  soundC_of_run (C := law34_first_1.C n) (n := n) (law34_first_1.ok n) func60 (by kernel_rfl) (by kernel_rfl) (fun x c r h => (law34_first_1.eq n x c).trans h)

def law34_first.rs : List RTy := [.data (.int .i64)]
def law34_first.ps : List PTy := [.data (.slc TRule), .data THeader]
noncomputable def law34_first.e (n : Nat) : Ent := ⟨law34_first.ps, law34_first.rs, fun x => law34_first n x.1 x.2⟩
noncomputable def law34_first.C (n : Nat) : Ctx := { tab := tab, fts := fts, pts := pts, Γ := lookO [(59, slices_IndexFunc_Rule.e n)], Γc := lookO [(60, law34_first_1.e n)], Γs := lookO [], Γm := lookO [], ntmps := f28.ntmps, keep := Vi.look ([], []) [], pins := [] }
theorem law34_first.ok (n : Nat) : CtxOk prog (law34_first.C n) := ⟨types, ftsOk_, ptsOk_, (fns_cons (slices_IndexFunc_Rule.sound n) fns_nil), (cls_cons (law34_first_1.sound n) cls_nil), sqs_nil, ems_nil, mixed⟩
theorem law34_first.eq (n : Nat) (x : pdens law34_first.ps) : Vi.run (law34_first.C n) n f28 law34_first.ps law34_first.rs x = law34_first n x.1 x.2 := by kernel_rfl
theorem law34_first.sound (n : Nat) : SoundE prog 28 (law34_first.e n) :=
  soundE_of_run (C := law34_first.C n) (n := n) (law34_first.ok n) func28 (by kernel_rfl) (by kernel_rfl) (fun x r h => (law34_first.eq n x).trans h)

def law34_ShadowHit.rs : List RTy := [.data .bool]
def law34_ShadowHit.ps : List PTy := [.data (.slc TRule), .data (.int .i64)]
noncomputable def law34_ShadowHit.e (n : Nat) : Ent := ⟨law34_ShadowHit.ps, law34_ShadowHit.rs, fun x => law34_ShadowHit n x.1 x.2⟩
noncomputable def law34_ShadowHit.C (n : Nat) : Ctx := { tab := tab, fts := fts, pts := pts, Γ := lookO [(12, law34_light.e n), (13, law34_awake.e n), (14, shadow_Look.e n), (18, shadow_Drop.e n), (28, law34_first.e n)], Γc := lookO [], Γs := lookO [], Γm := lookO [], ntmps := f7.ntmps, keep := Vi.look ([], []) [(7, ([0, 1, 5, 31, 32], []))], pins := [] }
theorem law34_ShadowHit.ok (n : Nat) : CtxOk prog (law34_ShadowHit.C n) := ⟨types, ftsOk_, ptsOk_, (fns_cons (law34_light.sound n) (fns_cons (law34_awake.sound n) (fns_cons (shadow_Look.sound n) (fns_cons (shadow_Drop.sound n) (fns_cons (law34_first.sound n) fns_nil))))), cls_nil, sqs_nil, ems_nil, mixed⟩
noncomputable def law34_ShadowHit.code : Code := bodyOf f7
theorem law34_ShadowHit.l0.step (n : Nat) (m0 : Nat) (l_1 : (List Rule)) (most_1 : Int) (k5 : (List Rule)) (v31 : Int) (v32 : Int) : it (EmR.no _) (law34_ShadowHit.C n) n (Code.go law34_ShadowHit.code [1, 1, 1, 1, 0, 1, 0, 0]) (blockK 0 (seqK (EmR.no _) (law34_ShadowHit.C n) n (Code.go law34_ShadowHit.code [1, 1, 1, 1, 1]) (bodyK (law34_ShadowHit.C n) f7 law34_ShadowHit.rs))) (m0 + 1) ⟨[(0, .dat (.slc TRule) l_1), (1, .dat (.int .i64) most_1), (5, .lst (.tip 100005 0) TRule k5), (31, .dat (.int .i64) v31), (32, .dat (.int .i64) v32)], [(100005, .tok 0)]⟩ = law34_ShadowHit.s0 n (fun (v32' : Int) => it (EmR.no _) (law34_ShadowHit.C n) n (Code.go law34_ShadowHit.code [1, 1, 1, 1, 0, 1, 0, 0]) (blockK 0 (seqK (EmR.no _) (law34_ShadowHit.C n) n (Code.go law34_ShadowHit.code [1, 1, 1, 1, 1]) (bodyK (law34_ShadowHit.C n) f7 law34_ShadowHit.rs))) m0 ⟨[(0, .dat (.slc TRule) l_1), (1, .dat (.int .i64) most_1), (5, .lst (.tip 100005 0) TRule k5), (31, .dat (.int .i64) v31), (32, .dat (.int .i64) (v32'))], [(100005, .tok 0)]⟩) l_1 most_1 k5 v31 v32 := by kernel_rfl
theorem law34_ShadowHit.l0.eq (n : Nat) (l_1 : (List Rule)) (most_1 : Int) (k5 : (List Rule)) (v31 : Int) : ∀ (m0 : Nat) (v32 : Int), it (EmR.no _) (law34_ShadowHit.C n) n (Code.go law34_ShadowHit.code [1, 1, 1, 1, 0, 1, 0, 0]) (blockK 0 (seqK (EmR.no _) (law34_ShadowHit.C n) n (Code.go law34_ShadowHit.code [1, 1, 1, 1, 1]) (bodyK (law34_ShadowHit.C n) f7 law34_ShadowHit.rs))) m0 ⟨[(0, .dat (.slc TRule) l_1), (1, .dat (.int .i64) most_1), (5, .lst (.tip 100005 0) TRule k5), (31, .dat (.int .i64) v31), (32, .dat (.int .i64) v32)], [(100005, .tok 0)]⟩ = law34_ShadowHit.l0 n l_1 most_1 k5 v31 m0 v32
  | 0, _ => rfl
  | m0 + 1, v32 =>
    (law34_ShadowHit.l0.step n m0 l_1 most_1 k5 v31 v32).trans (congr1 (fun k0 => law34_ShadowHit.s0 n k0 l_1 most_1 k5 v31 v32) (funext fun v32' => law34_ShadowHit.l0.eq n l_1 most_1 k5 v31 m0 v32'))
theorem law34_ShadowHit.run0 (n : Nat) (x : pdens law34_ShadowHit.ps) : Vi.run (law34_ShadowHit.C n) n f7 law34_ShadowHit.ps law34_ShadowHit.rs x = law34_ShadowHit.s n (fun (l_1' : (List Rule)) (most_1' : Int) (k5' : (List Rule)) (v31' : Int) (v32' : Int) => it (EmR.no _) (law34_ShadowHit.C n) n (Code.go law34_ShadowHit.code [1, 1, 1, 1, 0, 1, 0, 0]) (blockK 0 (seqK (EmR.no _) (law34_ShadowHit.C n) n (Code.go law34_ShadowHit.code [1, 1, 1, 1, 1]) (bodyK (law34_ShadowHit.C n) f7 law34_ShadowHit.rs))) n ⟨[(0, .dat (.slc TRule) (l_1')), (1, .dat (.int .i64) (most_1')), (5, .lst (.tip 100005 0) TRule (k5')), (31, .dat (.int .i64) (v31')), (32, .dat (.int .i64) (v32'))], [(100005, .tok 0)]⟩) x.1 x.2 := by kernel_rfl
theorem law34_ShadowHit.eq (n : Nat) (x : pdens law34_ShadowHit.ps) : Vi.run (law34_ShadowHit.C n) n f7 law34_ShadowHit.ps law34_ShadowHit.rs x = law34_ShadowHit n x.1 x.2 :=
  (law34_ShadowHit.run0 n x).trans (congr1 (fun k0 => law34_ShadowHit.s n k0 x.1 x.2) (funext fun l_1' => funext fun most_1' => funext fun k5' => funext fun v31' => funext fun v32' => law34_ShadowHit.l0.eq n l_1' most_1' k5' v31' n v32'))
theorem law34_ShadowHit.sound (n : Nat) : SoundE prog 7 (law34_ShadowHit.e n) :=
  soundE_of_run (C := law34_ShadowHit.C n) (n := n) (law34_ShadowHit.ok n) func7 (by kernel_rfl) (by kernel_rfl) (fun x r h => (law34_ShadowHit.eq n x).trans h)
def law34_ShadowHit.g (n : Nat) (x : pdens (law34_ShadowHit.τs.map PTy.data)) : Option Bool := law34_ShadowHit n x.1 x.2
theorem law34_ShadowHit.soundN (n : Nat) : SoundE prog 7 ⟨law34_ShadowHit.τs.map PTy.data, [.data .bool], law34_ShadowHit.g n⟩ := law34_ShadowHit.sound n

def slices_Equal_Atom.rs : List RTy := [.data .bool]
def slices_Equal_Atom.ps : List PTy := [.data (.slc TAtom), .data (.slc TAtom)]
noncomputable def slices_Equal_Atom.e (n : Nat) : Ent := ⟨slices_Equal_Atom.ps, slices_Equal_Atom.rs, fun x => slices_Equal_Atom n x.1 x.2⟩
noncomputable def slices_Equal_Atom.C (n : Nat) : Ctx := { tab := tab, fts := fts, pts := pts, Γ := lookO [], Γc := lookO [], Γs := lookO [], Γm := lookO [], ntmps := f64.ntmps, keep := Vi.look ([], []) [(4, ([0, 1, 12, 13], []))], pins := [] }
theorem slices_Equal_Atom.ok (n : Nat) : CtxOk prog (slices_Equal_Atom.C n) := ⟨types, ftsOk_, ptsOk_, fns_nil, cls_nil, sqs_nil, ems_nil, mixed⟩
noncomputable def slices_Equal_Atom.code : Code := bodyOf f64
theorem slices_Equal_Atom.l0.step (n : Nat) (m0 : Nat) (s1_1 : (List Atom)) (s2_1 : (List Atom)) (v12 : Int) (v13 : Int) : it (EmR.no _) (slices_Equal_Atom.C n) n (Code.go slices_Equal_Atom.code [1, 1, 0, 1, 0, 0]) (blockK 0 (seqK (EmR.no _) (slices_Equal_Atom.C n) n (Code.go slices_Equal_Atom.code [1, 1, 1]) (bodyK (slices_Equal_Atom.C n) f64 slices_Equal_Atom.rs))) (m0 + 1) ⟨[(0, .dat (.slc TAtom) s1_1), (1, .dat (.slc TAtom) s2_1), (12, .dat (.int .i64) v12), (13, .dat (.int .i64) v13)], []⟩ = slices_Equal_Atom.s0 n (fun (v13' : Int) => it (EmR.no _) (slices_Equal_Atom.C n) n (Code.go slices_Equal_Atom.code [1, 1, 0, 1, 0, 0]) (blockK 0 (seqK (EmR.no _) (slices_Equal_Atom.C n) n (Code.go slices_Equal_Atom.code [1, 1, 1]) (bodyK (slices_Equal_Atom.C n) f64 slices_Equal_Atom.rs))) m0 ⟨[(0, .dat (.slc TAtom) s1_1), (1, .dat (.slc TAtom) s2_1), (12, .dat (.int .i64) v12), (13, .dat (.int .i64) (v13'))], []⟩) s1_1 s2_1 v12 v13 := by kernel_rfl
theorem slices_Equal_Atom.l0.eq (n : Nat) (s1_1 : (List Atom)) (s2_1 : (List Atom)) (v12 : Int) : ∀ (m0 : Nat) (v13 : Int), it (EmR.no _) (slices_Equal_Atom.C n) n (Code.go slices_Equal_Atom.code [1, 1, 0, 1, 0, 0]) (blockK 0 (seqK (EmR.no _) (slices_Equal_Atom.C n) n (Code.go slices_Equal_Atom.code [1, 1, 1]) (bodyK (slices_Equal_Atom.C n) f64 slices_Equal_Atom.rs))) m0 ⟨[(0, .dat (.slc TAtom) s1_1), (1, .dat (.slc TAtom) s2_1), (12, .dat (.int .i64) v12), (13, .dat (.int .i64) v13)], []⟩ = slices_Equal_Atom.l0 n s1_1 s2_1 v12 m0 v13
  | 0, _ => rfl
  | m0 + 1, v13 =>
    (slices_Equal_Atom.l0.step n m0 s1_1 s2_1 v12 v13).trans (congr1 (fun k0 => slices_Equal_Atom.s0 n k0 s1_1 s2_1 v12 v13) (funext fun v13' => slices_Equal_Atom.l0.eq n s1_1 s2_1 v12 m0 v13'))
theorem slices_Equal_Atom.run0 (n : Nat) (x : pdens slices_Equal_Atom.ps) : Vi.run (slices_Equal_Atom.C n) n f64 slices_Equal_Atom.ps slices_Equal_Atom.rs x = slices_Equal_Atom.s n (fun (s1_1' : (List Atom)) (s2_1' : (List Atom)) (v12' : Int) (v13' : Int) => it (EmR.no _) (slices_Equal_Atom.C n) n (Code.go slices_Equal_Atom.code [1, 1, 0, 1, 0, 0]) (blockK 0 (seqK (EmR.no _) (slices_Equal_Atom.C n) n (Code.go slices_Equal_Atom.code [1, 1, 1]) (bodyK (slices_Equal_Atom.C n) f64 slices_Equal_Atom.rs))) n ⟨[(0, .dat (.slc TAtom) (s1_1')), (1, .dat (.slc TAtom) (s2_1')), (12, .dat (.int .i64) (v12')), (13, .dat (.int .i64) (v13'))], []⟩) x.1 x.2 := by kernel_rfl
theorem slices_Equal_Atom.eq (n : Nat) (x : pdens slices_Equal_Atom.ps) : Vi.run (slices_Equal_Atom.C n) n f64 slices_Equal_Atom.ps slices_Equal_Atom.rs x = slices_Equal_Atom n x.1 x.2 :=
  (slices_Equal_Atom.run0 n x).trans (congr1 (fun k0 => slices_Equal_Atom.s n k0 x.1 x.2) (funext fun s1_1' => funext fun s2_1' => funext fun v12' => funext fun v13' => slices_Equal_Atom.l0.eq n s1_1' s2_1' v12' n v13'))
theorem slices_Equal_Atom.sound (n : Nat) : SoundE prog 64 (slices_Equal_Atom.e n) :=
  soundE_of_run (C := slices_Equal_Atom.C n) (n := n) (slices_Equal_Atom.ok n) func64 (by kernel_rfl) (by kernel_rfl) (fun x r h => (slices_Equal_Atom.eq n x).trans h)

def law34_same.rs : List RTy := [.data .bool]
def law34_same.ps : List PTy := [.data TRule, .data TRule]
noncomputable def law34_same.e (n : Nat) : Ent := ⟨law34_same.ps, law34_same.rs, fun x => law34_same n x.1 x.2⟩
noncomputable def law34_same.C (n : Nat) : Ctx := { tab := tab, fts := fts, pts := pts, Γ := lookO [(64, slices_Equal_Atom.e n)], Γc := lookO [], Γs := lookO [], Γm := lookO [], ntmps := f37.ntmps, keep := Vi.look ([], []) [], pins := [] }
theorem law34_same.ok (n : Nat) : CtxOk prog (law34_same.C n) := ⟨types, ftsOk_, ptsOk_, (fns_cons (slices_Equal_Atom.sound n) fns_nil), cls_nil, sqs_nil, ems_nil, mixed⟩
theorem law34_same.eq (n : Nat) (x : pdens law34_same.ps) : Vi.run (law34_same.C n) n f37 law34_same.ps law34_same.rs x = law34_same n x.1 x.2 := by kernel_rfl
theorem law34_same.sound (n : Nat) : SoundE prog 37 (law34_same.e n) :=
  soundE_of_run (C := law34_same.C n) (n := n) (law34_same.ok n) func37 (by kernel_rfl) (by kernel_rfl) (fun x r h => (law34_same.eq n x).trans h)
def law34_same.g (n : Nat) (x : pdens (law34_same.τs.map PTy.data)) : Option Bool := law34_same n x.1 x.2
theorem law34_same.soundN (n : Nat) : SoundE prog 37 ⟨law34_same.τs.map PTy.data, [.data .bool], law34_same.g n⟩ := law34_same.sound n

def law34_ShadowSame.rs : List RTy := [.data .bool]
def law34_ShadowSame.ps : List PTy := [.data (.slc TRule), .data (.int .i64), .data THeader]
noncomputable def law34_ShadowSame.e (n : Nat) : Ent := ⟨law34_ShadowSame.ps, law34_ShadowSame.rs, fun x => law34_ShadowSame n x.1 x.2.1 x.2.2⟩
noncomputable def law34_ShadowSame.C (n : Nat) : Ctx := { tab := tab, fts := fts, pts := pts, Γ := lookO [(12, law34_light.e n), (13, law34_awake.e n), (18, shadow_Drop.e n), (28, law34_first.e n), (37, law34_same.e n)], Γc := lookO [], Γs := lookO [], Γm := lookO [], ntmps := f10.ntmps, keep := Vi.look ([], []) [], pins := [] }
theorem law34_ShadowSame.ok (n : Nat) : CtxOk prog (law34_ShadowSame.C n) := ⟨types, ftsOk_, ptsOk_, (fns_cons (law34_light.sound n) (fns_cons (law34_awake.sound n) (fns_cons (shadow_Drop.sound n) (fns_cons (law34_first.sound n) (fns_cons (law34_same.sound n) fns_nil))))), cls_nil, sqs_nil, ems_nil, mixed⟩
theorem law34_ShadowSame.eq (n : Nat) (x : pdens law34_ShadowSame.ps) : Vi.run (law34_ShadowSame.C n) n f10 law34_ShadowSame.ps law34_ShadowSame.rs x = law34_ShadowSame n x.1 x.2.1 x.2.2 := by kernel_rfl
theorem law34_ShadowSame.sound (n : Nat) : SoundE prog 10 (law34_ShadowSame.e n) :=
  soundE_of_run (C := law34_ShadowSame.C n) (n := n) (law34_ShadowSame.ok n) func10 (by kernel_rfl) (by kernel_rfl) (fun x r h => (law34_ShadowSame.eq n x).trans h)
def law34_ShadowSame.g (n : Nat) (x : pdens (law34_ShadowSame.τs.map PTy.data)) : Option Bool := law34_ShadowSame n x.1 x.2.1 x.2.2
theorem law34_ShadowSame.soundN (n : Nat) : SoundE prog 10 ⟨law34_ShadowSame.τs.map PTy.data, [.data .bool], law34_ShadowSame.g n⟩ := law34_ShadowSame.sound n

def ref34_Drop.rs : List RTy := [.fresh TRule, .data (.int .i64)]
def ref34_Drop.ps : List PTy := [.data (.slc TRule), .data (.int .i64)]
noncomputable def ref34_Drop.e (n : Nat) : Ent := ⟨ref34_Drop.ps, ref34_Drop.rs, fun x => ref34_Drop n x.1 x.2⟩
noncomputable def ref34_Drop.C (n : Nat) : Ctx := { tab := tab, fts := fts, pts := pts, Γ := lookO [(43, ref34_Cubes.e n), (45, ref08_Look.e n)], Γc := lookO [], Γs := lookO [], Γm := lookO [], ntmps := f38.ntmps, keep := Vi.look ([], []) [(3, ([0, 1, 6, 7], []))], pins := [] }
theorem ref34_Drop.ok (n : Nat) : CtxOk prog (ref34_Drop.C n) := ⟨types, ftsOk_, ptsOk_, (fns_cons (ref34_Cubes.sound n) (fns_cons (ref08_Look.sound n) fns_nil)), cls_nil, sqs_nil, ems_nil, mixed⟩
noncomputable def ref34_Drop.code : Code := bodyOf f38
theorem ref34_Drop.l0.step (n : Nat) (m0 : Nat) (l_1 : (List Rule)) (most_1 : Int) (out : (List Rule)) (i : Int) : it (EmR.no _) (ref34_Drop.C n) n (Code.go ref34_Drop.code [1, 1, 0, 1, 0, 0]) (blockK 0 (seqK (EmR.no _) (ref34_Drop.C n) n (Code.go ref34_Drop.code [1, 1, 1]) (bodyK (ref34_Drop.C n) f38 ref34_Drop.rs))) (m0 + 1) ⟨[(0, .dat (.slc TRule) l_1), (1, .dat (.int .i64) most_1), (6, .lst (.tip 100006 0) TRule out), (7, .dat (.int .i64) i)], [(100006, .tok 0)]⟩ = ref34_Drop.s0 n (fun (out' : (List Rule)) (i' : Int) => it (EmR.no _) (ref34_Drop.C n) n (Code.go ref34_Drop.code [1, 1, 0, 1, 0, 0]) (blockK 0 (seqK (EmR.no _) (ref34_Drop.C n) n (Code.go ref34_Drop.code [1, 1, 1]) (bodyK (ref34_Drop.C n) f38 ref34_Drop.rs))) m0 ⟨[(0, .dat (.slc TRule) l_1), (1, .dat (.int .i64) most_1), (6, .lst (.tip 100006 0) TRule (out')), (7, .dat (.int .i64) (i'))], [(100006, .tok 0)]⟩) l_1 most_1 out i := by kernel_rfl
theorem ref34_Drop.l0.eq (n : Nat) (l_1 : (List Rule)) (most_1 : Int) : ∀ (m0 : Nat) (out : (List Rule)) (i : Int), it (EmR.no _) (ref34_Drop.C n) n (Code.go ref34_Drop.code [1, 1, 0, 1, 0, 0]) (blockK 0 (seqK (EmR.no _) (ref34_Drop.C n) n (Code.go ref34_Drop.code [1, 1, 1]) (bodyK (ref34_Drop.C n) f38 ref34_Drop.rs))) m0 ⟨[(0, .dat (.slc TRule) l_1), (1, .dat (.int .i64) most_1), (6, .lst (.tip 100006 0) TRule out), (7, .dat (.int .i64) i)], [(100006, .tok 0)]⟩ = ref34_Drop.l0 n l_1 most_1 m0 out i
  | 0, _, _ => rfl
  | m0 + 1, out, i =>
    (ref34_Drop.l0.step n m0 l_1 most_1 out i).trans (congr1 (fun k0 => ref34_Drop.s0 n k0 l_1 most_1 out i) (funext fun out' => funext fun i' => ref34_Drop.l0.eq n l_1 most_1 m0 out' i'))
theorem ref34_Drop.run0 (n : Nat) (x : pdens ref34_Drop.ps) : Vi.run (ref34_Drop.C n) n f38 ref34_Drop.ps ref34_Drop.rs x = ref34_Drop.s n (fun (l_1' : (List Rule)) (most_1' : Int) (out' : (List Rule)) (i' : Int) => it (EmR.no _) (ref34_Drop.C n) n (Code.go ref34_Drop.code [1, 1, 0, 1, 0, 0]) (blockK 0 (seqK (EmR.no _) (ref34_Drop.C n) n (Code.go ref34_Drop.code [1, 1, 1]) (bodyK (ref34_Drop.C n) f38 ref34_Drop.rs))) n ⟨[(0, .dat (.slc TRule) (l_1')), (1, .dat (.int .i64) (most_1')), (6, .lst (.tip 100006 0) TRule (out')), (7, .dat (.int .i64) (i'))], [(100006, .tok 0)]⟩) x.1 x.2 := by kernel_rfl
theorem ref34_Drop.eq (n : Nat) (x : pdens ref34_Drop.ps) : Vi.run (ref34_Drop.C n) n f38 ref34_Drop.ps ref34_Drop.rs x = ref34_Drop n x.1 x.2 :=
  (ref34_Drop.run0 n x).trans (congr1 (fun k0 => ref34_Drop.s n k0 x.1 x.2) (funext fun l_1' => funext fun most_1' => funext fun out' => funext fun i' => ref34_Drop.l0.eq n l_1' most_1' n out' i'))
theorem ref34_Drop.sound (n : Nat) : SoundE prog 38 (ref34_Drop.e n) :=
  soundE_of_run (C := ref34_Drop.C n) (n := n) (ref34_Drop.ok n) func38 (by kernel_rfl) (by kernel_rfl) (fun x r h => (ref34_Drop.eq n x).trans h)

def slices_EqualFunc_Rule.rs : List RTy := [.data .bool]
def slices_EqualFunc_Rule.ps : List PTy := [.data (.slc TRule), .data (.slc TRule), .fnp [TRule, TRule] [.bool]]
noncomputable def slices_EqualFunc_Rule.e (n : Nat) : Ent := ⟨slices_EqualFunc_Rule.ps, slices_EqualFunc_Rule.rs, fun x => slices_EqualFunc_Rule n x.1 x.2.1 x.2.2⟩
noncomputable def slices_EqualFunc_Rule.C (n : Nat) : Ctx := { tab := tab, fts := fts, pts := pts, Γ := lookO [], Γc := lookO [], Γs := lookO [], Γm := lookO [], ntmps := f39.ntmps, keep := Vi.look ([], []) [(4, ([1, 2, 15, 16, 17], []))], pins := [] }
theorem slices_EqualFunc_Rule.ok (n : Nat) : CtxOk prog (slices_EqualFunc_Rule.C n) := ⟨types, ftsOk_, ptsOk_, fns_nil, cls_nil, sqs_nil, ems_nil, mixed⟩
noncomputable def slices_EqualFunc_Rule.code : Code := bodyOf f39
theorem slices_EqualFunc_Rule.l0.step (n : Nat) (m0 : Nat) (s2_1 : (List Rule)) (eq_1 : ((Rule × Rule) → Option Bool)) (v15 : (List Rule)) (v16 : Int) (v17 : Int) : it (EmR.no _) (slices_EqualFunc_Rule.C n) n (Code.go slices_EqualFunc_Rule.code [1, 1, 0, 1, 0, 0]) (blockK 0 (seqK (EmR.no _) (slices_EqualFunc_Rule.C n) n (Code.go slices_EqualFunc_Rule.code [1, 1, 1]) (bodyK (slices_EqualFunc_Rule.C n) f39 slices_EqualFunc_Rule.rs))) (m0 + 1) ⟨[(1, .dat (.slc TRule) s2_1), (2, .fn [TRule, TRule] [.bool] eq_1), (15, .dat (.slc TRule) v15), (16, .dat (.int .i64) v16), (17, .dat (.int .i64) v17)], []⟩ = slices_EqualFunc_Rule.s0 n (fun (v17' : Int) => it (EmR.no _) (slices_EqualFunc_Rule.C n) n (Code.go slices_EqualFunc_Rule.code [1, 1, 0, 1, 0, 0]) (blockK 0 (seqK (EmR.no _) (slices_EqualFunc_Rule.C n) n (Code.go slices_EqualFunc_Rule.code [1, 1, 1]) (bodyK (slices_EqualFunc_Rule.C n) f39 slices_EqualFunc_Rule.rs))) m0 ⟨[(1, .dat (.slc TRule) s2_1), (2, .fn [TRule, TRule] [.bool] eq_1), (15, .dat (.slc TRule) v15), (16, .dat (.int .i64) v16), (17, .dat (.int .i64) (v17'))], []⟩) s2_1 eq_1 v15 v16 v17 := by kernel_rfl
theorem slices_EqualFunc_Rule.l0.eq (n : Nat) (s2_1 : (List Rule)) (eq_1 : ((Rule × Rule) → Option Bool)) (v15 : (List Rule)) (v16 : Int) : ∀ (m0 : Nat) (v17 : Int), it (EmR.no _) (slices_EqualFunc_Rule.C n) n (Code.go slices_EqualFunc_Rule.code [1, 1, 0, 1, 0, 0]) (blockK 0 (seqK (EmR.no _) (slices_EqualFunc_Rule.C n) n (Code.go slices_EqualFunc_Rule.code [1, 1, 1]) (bodyK (slices_EqualFunc_Rule.C n) f39 slices_EqualFunc_Rule.rs))) m0 ⟨[(1, .dat (.slc TRule) s2_1), (2, .fn [TRule, TRule] [.bool] eq_1), (15, .dat (.slc TRule) v15), (16, .dat (.int .i64) v16), (17, .dat (.int .i64) v17)], []⟩ = slices_EqualFunc_Rule.l0 n s2_1 eq_1 v15 v16 m0 v17
  | 0, _ => rfl
  | m0 + 1, v17 =>
    (slices_EqualFunc_Rule.l0.step n m0 s2_1 eq_1 v15 v16 v17).trans (congr1 (fun k0 => slices_EqualFunc_Rule.s0 n k0 s2_1 eq_1 v15 v16 v17) (funext fun v17' => slices_EqualFunc_Rule.l0.eq n s2_1 eq_1 v15 v16 m0 v17'))
theorem slices_EqualFunc_Rule.run0 (n : Nat) (x : pdens slices_EqualFunc_Rule.ps) : Vi.run (slices_EqualFunc_Rule.C n) n f39 slices_EqualFunc_Rule.ps slices_EqualFunc_Rule.rs x = slices_EqualFunc_Rule.s n (fun (s2_1' : (List Rule)) (eq_1' : ((Rule × Rule) → Option Bool)) (v15' : (List Rule)) (v16' : Int) (v17' : Int) => it (EmR.no _) (slices_EqualFunc_Rule.C n) n (Code.go slices_EqualFunc_Rule.code [1, 1, 0, 1, 0, 0]) (blockK 0 (seqK (EmR.no _) (slices_EqualFunc_Rule.C n) n (Code.go slices_EqualFunc_Rule.code [1, 1, 1]) (bodyK (slices_EqualFunc_Rule.C n) f39 slices_EqualFunc_Rule.rs))) n ⟨[(1, .dat (.slc TRule) (s2_1')), (2, .fn [TRule, TRule] [.bool] (eq_1')), (15, .dat (.slc TRule) (v15')), (16, .dat (.int .i64) (v16')), (17, .dat (.int .i64) (v17'))], []⟩) x.1 x.2.1 x.2.2 := by kernel_rfl
theorem slices_EqualFunc_Rule.eq (n : Nat) (x : pdens slices_EqualFunc_Rule.ps) : Vi.run (slices_EqualFunc_Rule.C n) n f39 slices_EqualFunc_Rule.ps slices_EqualFunc_Rule.rs x = slices_EqualFunc_Rule n x.1 x.2.1 x.2.2 :=
  (slices_EqualFunc_Rule.run0 n x).trans (congr1 (fun k0 => slices_EqualFunc_Rule.s n k0 x.1 x.2.1 x.2.2) (funext fun s2_1' => funext fun eq_1' => funext fun v15' => funext fun v16' => funext fun v17' => slices_EqualFunc_Rule.l0.eq n s2_1' eq_1' v15' v16' n v17'))
theorem slices_EqualFunc_Rule.sound (n : Nat) : SoundE prog 39 (slices_EqualFunc_Rule.e n) :=
  soundE_of_run (C := slices_EqualFunc_Rule.C n) (n := n) (slices_EqualFunc_Rule.ok n) func39 (by kernel_rfl) (by kernel_rfl) (fun x r h => (slices_EqualFunc_Rule.eq n x).trans h)

def law34_same_c.rs : List Ty := [.bool]
def law34_same_c.ps : List Ty := [TRule, TRule]
def law34_same_c.caps : List PTy := []
noncomputable def law34_same_c.e (n : Nat) : Cl := ⟨law34_same_c.ps, law34_same_c.caps, law34_same_c.rs, fun x c => law34_same_c n x.1 x.2⟩
noncomputable def law34_same_c.C (n : Nat) : Ctx := { tab := tab, fts := fts, pts := pts, Γ := lookO [(64, slices_Equal_Atom.e n)], Γc := lookO [], Γs := lookO [], Γm := lookO [], ntmps := f37.ntmps, keep := Vi.look ([], []) [], pins := [] }
theorem law34_same_c.ok (n : Nat) : CtxOk prog (law34_same_c.C n) := ⟨types, ftsOk_, ptsOk_, (fns_cons (slices_Equal_Atom.sound n) fns_nil), cls_nil, sqs_nil, ems_nil, mixed⟩
theorem law34_same_c.eq (n : Nat) (x : dens law34_same_c.ps) (c : pdens law34_same_c.caps) : Vi.runC (law34_same_c.C n) n f37 law34_same_c.ps law34_same_c.caps law34_same_c.rs x c = law34_same_c n x.1 x.2 := by kernel_rfl
theorem law34_same_c.sound (n : Nat) : SoundC prog 37 (law34_same_c.e n) :=
  soundC_of_run (C := law34_same_c.C n) (n := n) (law34_same_c.ok n) func37 (by kernel_rfl) (by kernel_rfl) (fun x c r h => (law34_same_c.eq n x c).trans h)

def slices_Equal_Cube.rs : List RTy := [.data .bool]
def slices_Equal_Cube.ps : List PTy := [.data (.slc TCube), .data (.slc TCube)]
noncomputable def slices_Equal_Cube.e (n : Nat) : Ent := ⟨slices_Equal_Cube.ps, slices_Equal_Cube.rs, fun x => slices_Equal_Cube n x.1 x.2⟩
noncomputable def slices_Equal_Cube.C (n : Nat) : Ctx := { tab := tab, fts := fts, pts := pts, Γ := lookO [], Γc := lookO [], Γs := lookO [], Γm := lookO [], ntmps := f41.ntmps, keep := Vi.look ([], []) [(4, ([0, 1, 12, 13], []))], pins := [] }
theorem slices_Equal_Cube.ok (n : Nat) : CtxOk prog (slices_Equal_Cube.C n) := ⟨types, ftsOk_, ptsOk_, fns_nil, cls_nil, sqs_nil, ems_nil, mixed⟩
noncomputable def slices_Equal_Cube.code : Code := bodyOf f41
theorem slices_Equal_Cube.l0.step (n : Nat) (m0 : Nat) (s1_1 : (List Cube)) (s2_1 : (List Cube)) (v12 : Int) (v13 : Int) : it (EmR.no _) (slices_Equal_Cube.C n) n (Code.go slices_Equal_Cube.code [1, 1, 0, 1, 0, 0]) (blockK 0 (seqK (EmR.no _) (slices_Equal_Cube.C n) n (Code.go slices_Equal_Cube.code [1, 1, 1]) (bodyK (slices_Equal_Cube.C n) f41 slices_Equal_Cube.rs))) (m0 + 1) ⟨[(0, .dat (.slc TCube) s1_1), (1, .dat (.slc TCube) s2_1), (12, .dat (.int .i64) v12), (13, .dat (.int .i64) v13)], []⟩ = slices_Equal_Cube.s0 n (fun (v13' : Int) => it (EmR.no _) (slices_Equal_Cube.C n) n (Code.go slices_Equal_Cube.code [1, 1, 0, 1, 0, 0]) (blockK 0 (seqK (EmR.no _) (slices_Equal_Cube.C n) n (Code.go slices_Equal_Cube.code [1, 1, 1]) (bodyK (slices_Equal_Cube.C n) f41 slices_Equal_Cube.rs))) m0 ⟨[(0, .dat (.slc TCube) s1_1), (1, .dat (.slc TCube) s2_1), (12, .dat (.int .i64) v12), (13, .dat (.int .i64) (v13'))], []⟩) s1_1 s2_1 v12 v13 := by kernel_rfl
theorem slices_Equal_Cube.l0.eq (n : Nat) (s1_1 : (List Cube)) (s2_1 : (List Cube)) (v12 : Int) : ∀ (m0 : Nat) (v13 : Int), it (EmR.no _) (slices_Equal_Cube.C n) n (Code.go slices_Equal_Cube.code [1, 1, 0, 1, 0, 0]) (blockK 0 (seqK (EmR.no _) (slices_Equal_Cube.C n) n (Code.go slices_Equal_Cube.code [1, 1, 1]) (bodyK (slices_Equal_Cube.C n) f41 slices_Equal_Cube.rs))) m0 ⟨[(0, .dat (.slc TCube) s1_1), (1, .dat (.slc TCube) s2_1), (12, .dat (.int .i64) v12), (13, .dat (.int .i64) v13)], []⟩ = slices_Equal_Cube.l0 n s1_1 s2_1 v12 m0 v13
  | 0, _ => rfl
  | m0 + 1, v13 =>
    (slices_Equal_Cube.l0.step n m0 s1_1 s2_1 v12 v13).trans (congr1 (fun k0 => slices_Equal_Cube.s0 n k0 s1_1 s2_1 v12 v13) (funext fun v13' => slices_Equal_Cube.l0.eq n s1_1 s2_1 v12 m0 v13'))
theorem slices_Equal_Cube.run0 (n : Nat) (x : pdens slices_Equal_Cube.ps) : Vi.run (slices_Equal_Cube.C n) n f41 slices_Equal_Cube.ps slices_Equal_Cube.rs x = slices_Equal_Cube.s n (fun (s1_1' : (List Cube)) (s2_1' : (List Cube)) (v12' : Int) (v13' : Int) => it (EmR.no _) (slices_Equal_Cube.C n) n (Code.go slices_Equal_Cube.code [1, 1, 0, 1, 0, 0]) (blockK 0 (seqK (EmR.no _) (slices_Equal_Cube.C n) n (Code.go slices_Equal_Cube.code [1, 1, 1]) (bodyK (slices_Equal_Cube.C n) f41 slices_Equal_Cube.rs))) n ⟨[(0, .dat (.slc TCube) (s1_1')), (1, .dat (.slc TCube) (s2_1')), (12, .dat (.int .i64) (v12')), (13, .dat (.int .i64) (v13'))], []⟩) x.1 x.2 := by kernel_rfl
theorem slices_Equal_Cube.eq (n : Nat) (x : pdens slices_Equal_Cube.ps) : Vi.run (slices_Equal_Cube.C n) n f41 slices_Equal_Cube.ps slices_Equal_Cube.rs x = slices_Equal_Cube n x.1 x.2 :=
  (slices_Equal_Cube.run0 n x).trans (congr1 (fun k0 => slices_Equal_Cube.s n k0 x.1 x.2) (funext fun s1_1' => funext fun s2_1' => funext fun v12' => funext fun v13' => slices_Equal_Cube.l0.eq n s1_1' s2_1' v12' n v13'))
theorem slices_Equal_Cube.sound (n : Nat) : SoundE prog 41 (slices_Equal_Cube.e n) :=
  soundE_of_run (C := slices_Equal_Cube.C n) (n := n) (slices_Equal_Cube.ok n) func41 (by kernel_rfl) (by kernel_rfl) (fun x r h => (slices_Equal_Cube.eq n x).trans h)

def law34_ShadowDrops.rs : List RTy := [.data .bool]
def law34_ShadowDrops.ps : List PTy := [.data (.slc TRule), .data (.int .i64)]
noncomputable def law34_ShadowDrops.e (n : Nat) : Ent := ⟨law34_ShadowDrops.ps, law34_ShadowDrops.rs, fun x => law34_ShadowDrops n x.1 x.2⟩
noncomputable def law34_ShadowDrops.C (n : Nat) : Ctx := { tab := tab, fts := fts, pts := pts, Γ := lookO [(12, law34_light.e n), (13, law34_awake.e n), (16, shadow_Bound.e n), (18, shadow_Drop.e n), (38, ref34_Drop.e n), (39, slices_EqualFunc_Rule.e n), (40, ref34_Bound.e n), (41, slices_Equal_Cube.e n), (42, shadow_Cubes.e n), (43, ref34_Cubes.e n)], Γc := lookO [(37, law34_same_c.e n)], Γs := lookO [], Γm := lookO [], ntmps := f11.ntmps, keep := Vi.look ([], []) [], pins := [] }
theorem law34_ShadowDrops.ok (n : Nat) : CtxOk prog (law34_ShadowDrops.C n) := ⟨types, ftsOk_, ptsOk_, (fns_cons (law34_light.sound n) (fns_cons (law34_awake.sound n) (fns_cons (shadow_Bound.sound n) (fns_cons (shadow_Drop.sound n) (fns_cons (ref34_Drop.sound n) (fns_cons (slices_EqualFunc_Rule.sound n) (fns_cons (ref34_Bound.sound n) (fns_cons (slices_Equal_Cube.sound n) (fns_cons (shadow_Cubes.sound n) (fns_cons (ref34_Cubes.sound n) fns_nil)))))))))), (cls_cons (law34_same_c.sound n) cls_nil), sqs_nil, ems_nil, mixed⟩
theorem law34_ShadowDrops.eq (n : Nat) (x : pdens law34_ShadowDrops.ps) : Vi.run (law34_ShadowDrops.C n) n f11 law34_ShadowDrops.ps law34_ShadowDrops.rs x = law34_ShadowDrops n x.1 x.2 := by kernel_rfl
theorem law34_ShadowDrops.sound (n : Nat) : SoundE prog 11 (law34_ShadowDrops.e n) :=
  soundE_of_run (C := law34_ShadowDrops.C n) (n := n) (law34_ShadowDrops.ok n) func11 (by kernel_rfl) (by kernel_rfl) (fun x r h => (law34_ShadowDrops.eq n x).trans h)
def law34_ShadowDrops.g (n : Nat) (x : pdens (law34_ShadowDrops.τs.map PTy.data)) : Option Bool := law34_ShadowDrops n x.1 x.2
theorem law34_ShadowDrops.soundN (n : Nat) : SoundE prog 11 ⟨law34_ShadowDrops.τs.map PTy.data, [.data .bool], law34_ShadowDrops.g n⟩ := law34_ShadowDrops.sound n

def law37_few.rs : List RTy := [.data .bool]
def law37_few.ps : List PTy := [.data TFlat, .data TFlat]
noncomputable def law37_few.e (n : Nat) : Ent := ⟨law37_few.ps, law37_few.rs, fun x => law37_few n x.1 x.2⟩
noncomputable def law37_few.C (n : Nat) : Ctx := { tab := tab, fts := fts, pts := pts, Γ := lookO [(17, plain_Rules.e n)], Γc := lookO [], Γs := lookO [], Γm := lookO [], ntmps := f24.ntmps, keep := Vi.look ([], []) [], pins := [] }
theorem law37_few.ok (n : Nat) : CtxOk prog (law37_few.C n) := ⟨types, ftsOk_, ptsOk_, (fns_cons (plain_Rules.sound n) fns_nil), cls_nil, sqs_nil, ems_nil, mixed⟩
theorem law37_few.eq (n : Nat) (x : pdens law37_few.ps) : Vi.run (law37_few.C n) n f24 law37_few.ps law37_few.rs x = law37_few n x.1 x.2 := by kernel_rfl
theorem law37_few.sound (n : Nat) : SoundE prog 24 (law37_few.e n) :=
  soundE_of_run (C := law37_few.C n) (n := n) (law37_few.ok n) func24 (by kernel_rfl) (by kernel_rfl) (fun x r h => (law37_few.eq n x).trans h)
def law37_few.g (n : Nat) (x : pdens (law37_few.τs.map PTy.data)) : Option Bool := law37_few n x.1 x.2
theorem law37_few.soundN (n : Nat) : SoundE prog 24 ⟨law37_few.τs.map PTy.data, [.data .bool], law37_few.g n⟩ := law37_few.sound n

def ref37_Meet.rs : List RTy := [.data TCube, .data .bool]
def ref37_Meet.ps : List PTy := [.data TFlat, .data TFlat, .data (.int .i64), .data (.int .i64)]
noncomputable def ref37_Meet.e (n : Nat) : Ent := ⟨ref37_Meet.ps, ref37_Meet.rs, fun x => ref37_Meet n x.1 x.2.1 x.2.2.1 x.2.2.2⟩
noncomputable def ref37_Meet.C (n : Nat) : Ctx := { tab := tab, fts := fts, pts := pts, Γ := lookO [(55, ref06_Meet.e n)], Γc := lookO [], Γs := lookO [], Γm := lookO [], ntmps := f32.ntmps, keep := Vi.look ([], []) [], pins := [] }
theorem ref37_Meet.ok (n : Nat) : CtxOk prog (ref37_Meet.C n) := ⟨types, ftsOk_, ptsOk_, (fns_cons (ref06_Meet.sound n) fns_nil), cls_nil, sqs_nil, ems_nil, mixed⟩
theorem ref37_Meet.eq (n : Nat) (x : pdens ref37_Meet.ps) : Vi.run (ref37_Meet.C n) n f32 ref37_Meet.ps ref37_Meet.rs x = ref37_Meet n x.1 x.2.1 x.2.2.1 x.2.2.2 := by kernel_rfl
theorem ref37_Meet.sound (n : Nat) : SoundE prog 32 (ref37_Meet.e n) :=
  soundE_of_run (C := ref37_Meet.C n) (n := n) (ref37_Meet.ok n) func32 (by kernel_rfl) (by kernel_rfl) (fun x r h => (ref37_Meet.eq n x).trans h)

def ref37_Pairs.rs : List RTy := [.fresh (.arr 2 (.int .i64))]
def ref37_Pairs.ps : List PTy := [.data TFlat, .data TFlat]
noncomputable def ref37_Pairs.e (n : Nat) : Ent := ⟨ref37_Pairs.ps, ref37_Pairs.rs, fun x => ref37_Pairs n x.1 x.2⟩
noncomputable def ref37_Pairs.C (n : Nat) : Ctx := { tab := tab, fts := fts, pts := pts, Γ := lookO [(32, ref37_Meet.e n)], Γc := lookO [], Γs := lookO [], Γm := lookO [], ntmps := f35.ntmps, keep := Vi.look ([], []) [(3, ([2, 3, 5, 6], [2, 3])), (6, ([2, 3, 5, 6, 7], [2, 3]))], pins := [] }
theorem ref37_Pairs.ok (n : Nat) : CtxOk prog (ref37_Pairs.C n) := ⟨types, ftsOk_, ptsOk_, (fns_cons (ref37_Meet.sound n) fns_nil), cls_nil, sqs_nil, ems_nil, mixed⟩
noncomputable def ref37_Pairs.code : Code := bodyOf f35
theorem ref37_Pairs.l1.step (n : Nat) (m0 : Nat) (m1 : Nat) (out_1 : (List (List Int))) (i_1 : Int) (j : Int) (a_2 : Flat) (b_2 : Flat) : it (EmR.no _) (ref37_Pairs.C n) n (Code.go ref37_Pairs.code [1, 1, 0, 1, 0, 0, 1, 0, 0, 1, 0, 0]) (blockK 2 (blockK 1 (seqK (EmR.no _) (ref37_Pairs.C n) n (Code.go ref37_Pairs.code [1, 1, 0, 1, 0, 0, 1, 1]) (loopK (EmR.no _) (ref37_Pairs.C n) n (Code.go ref37_Pairs.code [1, 1, 0, 1, 0, 0]) (blockK 0 (seqK (EmR.no _) (ref37_Pairs.C n) n (Code.go ref37_Pairs.code [1, 1, 1]) (bodyK (ref37_Pairs.C n) f35 ref37_Pairs.rs))) m0)))) (m1 + 1) ⟨[(2, .ptr 2 0 TFlat []), (3, .ptr 3 0 TFlat []), (5, .lst (.tip 100005 0) (.arr 2 (.int .i64)) out_1), (6, .dat (.int .i64) i_1), (7, .dat (.int .i64) j)], [(100005, .tok 0), (2, .box 0 false (.dat TFlat a_2)), (3, .box 0 false (.dat TFlat b_2))]⟩ = ref37_Pairs.s1 n (fun (out_1' : (List (List Int))) (j' : Int) => it (EmR.no _) (ref37_Pairs.C n) n (Code.go ref37_Pairs.code [1, 1, 0, 1, 0, 0, 1, 0, 0, 1, 0, 0]) (blockK 2 (blockK 1 (seqK (EmR.no _) (ref37_Pairs.C n) n (Code.go ref37_Pairs.code [1, 1, 0, 1, 0, 0, 1, 1]) (loopK (EmR.no _) (ref37_Pairs.C n) n (Code.go ref37_Pairs.code [1, 1, 0, 1, 0, 0]) (blockK 0 (seqK (EmR.no _) (ref37_Pairs.C n) n (Code.go ref37_Pairs.code [1, 1, 1]) (bodyK (ref37_Pairs.C n) f35 ref37_Pairs.rs))) m0)))) m1 ⟨[(2, .ptr 2 0 TFlat []), (3, .ptr 3 0 TFlat []), (5, .lst (.tip 100005 0) (.arr 2 (.int .i64)) (out_1')), (6, .dat (.int .i64) i_1), (7, .dat (.int .i64) (j'))], [(100005, .tok 0), (2, .box 0 false (.dat TFlat a_2)), (3, .box 0 false (.dat TFlat b_2))]⟩) (fun (out' : (List (List Int))) (i' : Int) (a_1' : Flat) (b_1' : Flat) => it (EmR.no _) (ref37_Pairs.C n) n (Code.go ref37_Pairs.code [1, 1, 0, 1, 0, 0]) (blockK 0 (seqK (EmR.no _) (ref37_Pairs.C n) n (Code.go ref37_Pairs.code [1, 1, 1]) (bodyK (ref37_Pairs.C n) f35 ref37_Pairs.rs))) m0 ⟨[(2, .ptr 2 0 TFlat []), (3, .ptr 3 0 TFlat []), (5, .lst (.tip 100005 0) (.arr 2 (.int .i64)) (out')), (6, .dat (.int .i64) (i'))], [(100005, .tok 0), (2, .box 0 false (.dat TFlat (a_1'))), (3, .box 0 false (.dat TFlat (b_1')))]⟩) out_1 i_1 j a_2 b_2 := by kernel_rfl
theorem ref37_Pairs.l1.eq (n : Nat) (m0 : Nat) (i_1 : Int) (a_2 : Flat) (b_2 : Flat) : ∀ (m1 : Nat) (out_1 : (List (List Int))) (j : Int), it (EmR.no _) (ref37_Pairs.C n) n (Code.go ref37_Pairs.code [1, 1, 0, 1, 0, 0, 1, 0, 0, 1, 0, 0]) (blockK 2 (blockK 1 (seqK (EmR.no _) (ref37_Pairs.C n) n (Code.go ref37_Pairs.code [1, 1, 0, 1, 0, 0, 1, 1]) (loopK (EmR.no _) (ref37_Pairs.C n) n (Code.go ref37_Pairs.code [1, 1, 0, 1, 0, 0]) (blockK 0 (seqK (EmR.no _) (ref37_Pairs.C n) n (Code.go ref37_Pairs.code [1, 1, 1]) (bodyK (ref37_Pairs.C n) f35 ref37_Pairs.rs))) m0)))) m1 ⟨[(2, .ptr 2 0 TFlat []), (3, .ptr 3 0 TFlat []), (5, .lst (.tip 100005 0) (.arr 2 (.int .i64)) out_1), (6, .dat (.int .i64) i_1), (7, .dat (.int .i64) j)], [(100005, .tok 0), (2, .box 0 false (.dat TFlat a_2)), (3, .box 0 false (.dat TFlat b_2))]⟩ = ref37_Pairs.l1 n i_1 a_2 b_2 (fun (out'' : (List (List Int))) (i'' : Int) (a_1'' : Flat) (b_1'' : Flat) => it (EmR.no _) (ref37_Pairs.C n) n (Code.go ref37_Pairs.code [1, 1, 0, 1, 0, 0]) (blockK 0 (seqK (EmR.no _) (ref37_Pairs.C n) n (Code.go ref37_Pairs.code [1, 1, 1]) (bodyK (ref37_Pairs.C n) f35 ref37_Pairs.rs))) m0 ⟨[(2, .ptr 2 0 TFlat []), (3, .ptr 3 0 TFlat []), (5, .lst (.tip 100005 0) (.arr 2 (.int .i64)) (out'')), (6, .dat (.int .i64) (i''))], [(100005, .tok 0), (2, .box 0 false (.dat TFlat (a_1''))), (3, .box 0 false (.dat TFlat (b_1'')))]⟩) m1 out_1 j
  | 0, _, _ => rfl
  | m1 + 1, out_1, j =>
    (ref37_Pairs.l1.step n m0 m1 out_1 i_1 j a_2 b_2).trans (congr2 (fun k1 k0 => ref37_Pairs.s1 n k1 k0 out_1 i_1 j a_2 b_2) (funext fun out_1' => funext fun j' => ref37_Pairs.l1.eq n m0 i_1 a_2 b_2 m1 out_1' j') rfl)
theorem ref37_Pairs.l0.step (n : Nat) (m0 : Nat) (out : (List (List Int))) (i : Int) (a_1 : Flat) (b_1 : Flat) : it (EmR.no _) (ref37_Pairs.C n) n (Code.go ref37_Pairs.code [1, 1, 0, 1, 0, 0]) (blockK 0 (seqK (EmR.no _) (ref37_Pairs.C n) n (Code.go ref37_Pairs.code [1, 1, 1]) (bodyK (ref37_Pairs.C n) f35 ref37_Pairs.rs))) (m0 + 1) ⟨[(2, .ptr 2 0 TFlat []), (3, .ptr 3 0 TFlat []), (5, .lst (.tip 100005 0) (.arr 2 (.int .i64)) out), (6, .dat (.int .i64) i)], [(100005, .tok 0), (2, .box 0 false (.dat TFlat a_1)), (3, .box 0 false (.dat TFlat b_1))]⟩ = ref37_Pairs.s0 n (fun (out_1' : (List (List Int))) (i_1' : Int) (j' : Int) (a_2' : Flat) (b_2' : Flat) => it (EmR.no _) (ref37_Pairs.C n) n (Code.go ref37_Pairs.code [1, 1, 0, 1, 0, 0, 1, 0, 0, 1, 0, 0]) (blockK 2 (blockK 1 (seqK (EmR.no _) (ref37_Pairs.C n) n (Code.go ref37_Pairs.code [1, 1, 0, 1, 0, 0, 1, 1]) (loopK (EmR.no _) (ref37_Pairs.C n) n (Code.go ref37_Pairs.code [1, 1, 0, 1, 0, 0]) (blockK 0 (seqK (EmR.no _) (ref37_Pairs.C n) n (Code.go ref37_Pairs.code [1, 1, 1]) (bodyK (ref37_Pairs.C n) f35 ref37_Pairs.rs))) m0)))) n ⟨[(2, .ptr 2 0 TFlat []), (3, .ptr 3 0 TFlat []), (5, .lst (.tip 100005 0) (.arr 2 (.int .i64)) (out_1')), (6, .dat (.int .i64) (i_1')), (7, .dat (.int .i64) (j'))], [(100005, .tok 0), (2, .box 0 false (.dat TFlat (a_2'))), (3, .box 0 false (.dat TFlat (b_2')))]⟩) out i a_1 b_1 := by kernel_rfl
theorem ref37_Pairs.l0.eq (n : Nat) (a_1 : Flat) (b_1 : Flat) : ∀ (m0 : Nat) (out : (List (List Int))) (i : Int), it (EmR.no _) (ref37_Pairs.C n) n (Code.go ref37_Pairs.code [1, 1, 0, 1, 0, 0]) (blockK 0 (seqK (EmR.no _) (ref37_Pairs.C n) n (Code.go ref37_Pairs.code [1, 1, 1]) (bodyK (ref37_Pairs.C n) f35 ref37_Pairs.rs))) m0 ⟨[(2, .ptr 2 0 TFlat []), (3, .ptr 3 0 TFlat []), (5, .lst (.tip 100005 0) (.arr 2 (.int .i64)) out), (6, .dat (.int .i64) i)], [(100005, .tok 0), (2, .box 0 false (.dat TFlat a_1)), (3, .box 0 false (.dat TFlat b_1))]⟩ = ref37_Pairs.l0 n a_1 b_1 m0 out i
  | 0, _, _ => rfl
  | m0 + 1, out, i =>
    (ref37_Pairs.l0.step n m0 out i a_1 b_1).trans (congr1 (fun k1 => ref37_Pairs.s0 n k1 out i a_1 b_1) (funext fun out_1' => funext fun i_1' => funext fun j' => funext fun a_2' => funext fun b_2' => (ref37_Pairs.l1.eq n m0 i_1' a_2' b_2' n out_1' j').trans (congr1 (fun kk => ref37_Pairs.l1 n i_1' a_2' b_2' kk n out_1' j') (funext fun out'' => funext fun i'' => funext fun a_1'' => funext fun b_1'' => ref37_Pairs.l0.eq n a_1'' b_1'' m0 out'' i''))))
theorem ref37_Pairs.run0 (n : Nat) (x : pdens ref37_Pairs.ps) : Vi.run (ref37_Pairs.C n) n f35 ref37_Pairs.ps ref37_Pairs.rs x = ref37_Pairs.s n (fun (out' : (List (List Int))) (i' : Int) (a_1' : Flat) (b_1' : Flat) => it (EmR.no _) (ref37_Pairs.C n) n (Code.go ref37_Pairs.code [1, 1, 0, 1, 0, 0]) (blockK 0 (seqK (EmR.no _) (ref37_Pairs.C n) n (Code.go ref37_Pairs.code [1, 1, 1]) (bodyK (ref37_Pairs.C n) f35 ref37_Pairs.rs))) n ⟨[(2, .ptr 2 0 TFlat []), (3, .ptr 3 0 TFlat []), (5, .lst (.tip 100005 0) (.arr 2 (.int .i64)) (out')), (6, .dat (.int .i64) (i'))], [(100005, .tok 0), (2, .box 0 false (.dat TFlat (a_1'))), (3, .box 0 false (.dat TFlat (b_1')))]⟩) x.1 x.2 := by kernel_rfl
theorem ref37_Pairs.eq (n : Nat) (x : pdens ref37_Pairs.ps) : Vi.run (ref37_Pairs.C n) n f35 ref37_Pairs.ps ref37_Pairs.rs x = ref37_Pairs n x.1 x.2 :=
  (ref37_Pairs.run0 n x).trans (congr1 (fun k0 => ref37_Pairs.s n k0 x.1 x.2) (funext fun out' => funext fun i' => funext fun a_1' => funext fun b_1' => ref37_Pairs.l0.eq n a_1' b_1' n out' i'))
theorem ref37_Pairs.sound (n : Nat) : SoundE prog 35 (ref37_Pairs.e n) :=
  soundE_of_run (C := ref37_Pairs.C n) (n := n) (ref37_Pairs.ok n) func35 (by kernel_rfl) (by kernel_rfl) (fun x r h => (ref37_Pairs.eq n x).trans h)

def ref37_Bound.rs : List RTy := [.data (.int .i64)]
def ref37_Bound.ps : List PTy := [.data TFlat, .data TFlat]
noncomputable def ref37_Bound.e (n : Nat) : Ent := ⟨ref37_Bound.ps, ref37_Bound.rs, fun x => ref37_Bound n x.1 x.2⟩
noncomputable def ref37_Bound.C (n : Nat) : Ctx := { tab := tab, fts := fts, pts := pts, Γ := lookO [(26, ref08_Bound.e n), (32, ref37_Meet.e n), (35, ref37_Pairs.e n), (43, ref34_Cubes.e n)], Γc := lookO [], Γs := lookO [], Γm := lookO [], ntmps := f36.ntmps, keep := Vi.look ([], []) [(4, ([2, 3, 5, 6, 7], [2, 3]))], pins := [] }
theorem ref37_Bound.ok (n : Nat) : CtxOk prog (ref37_Bound.C n) := ⟨types, ftsOk_, ptsOk_, (fns_cons (ref08_Bound.sound n) (fns_cons (ref37_Meet.sound n) (fns_cons (ref37_Pairs.sound n) (fns_cons (ref34_Cubes.sound n) fns_nil)))), cls_nil, sqs_nil, ems_nil, mixed⟩
noncomputable def ref37_Bound.code : Code := bodyOf f36
theorem ref37_Bound.l0.step (n : Nat) (m0 : Nat) (n5 : Int) (l : (List (List Int))) (k7 : Int) (a_1 : Flat) (b_1 : Flat) : it (EmR.no _) (ref37_Bound.C n) n (Code.go ref37_Bound.code [1, 1, 1, 0, 1, 0, 0]) (blockK 0 (seqK (EmR.no _) (ref37_Bound.C n) n (Code.go ref37_Bound.code [1, 1, 1, 1]) (bodyK (ref37_Bound.C n) f36 ref37_Bound.rs))) (m0 + 1) ⟨[(2, .ptr 2 0 TFlat []), (3, .ptr 3 0 TFlat []), (5, .dat (.int .i64) n5), (6, .lst (.tip 100006 0) (.arr 2 (.int .i64)) l), (7, .dat (.int .i64) k7)], [(100006, .tok 0), (2, .box 0 false (.dat TFlat a_1)), (3, .box 0 false (.dat TFlat b_1))]⟩ = ref37_Bound.s0 n (fun (n5' : Int) (k7' : Int) => it (EmR.no _) (ref37_Bound.C n) n (Code.go ref37_Bound.code [1, 1, 1, 0, 1, 0, 0]) (blockK 0 (seqK (EmR.no _) (ref37_Bound.C n) n (Code.go ref37_Bound.code [1, 1, 1, 1]) (bodyK (ref37_Bound.C n) f36 ref37_Bound.rs))) m0 ⟨[(2, .ptr 2 0 TFlat []), (3, .ptr 3 0 TFlat []), (5, .dat (.int .i64) (n5')), (6, .lst (.tip 100006 0) (.arr 2 (.int .i64)) l), (7, .dat (.int .i64) (k7'))], [(100006, .tok 0), (2, .box 0 false (.dat TFlat a_1)), (3, .box 0 false (.dat TFlat b_1))]⟩) n5 l k7 a_1 b_1 := by kernel_rfl
theorem ref37_Bound.l0.eq (n : Nat) (l : (List (List Int))) (a_1 : Flat) (b_1 : Flat) : ∀ (m0 : Nat) (n5 : Int) (k7 : Int), it (EmR.no _) (ref37_Bound.C n) n (Code.go ref37_Bound.code [1, 1, 1, 0, 1, 0, 0]) (blockK 0 (seqK (EmR.no _) (ref37_Bound.C n) n (Code.go ref37_Bound.code [1, 1, 1, 1]) (bodyK (ref37_Bound.C n) f36 ref37_Bound.rs))) m0 ⟨[(2, .ptr 2 0 TFlat []), (3, .ptr 3 0 TFlat []), (5, .dat (.int .i64) n5), (6, .lst (.tip 100006 0) (.arr 2 (.int .i64)) l), (7, .dat (.int .i64) k7)], [(100006, .tok 0), (2, .box 0 false (.dat TFlat a_1)), (3, .box 0 false (.dat TFlat b_1))]⟩ = ref37_Bound.l0 n l a_1 b_1 m0 n5 k7
  | 0, _, _ => rfl
  | m0 + 1, n5, k7 =>
    (ref37_Bound.l0.step n m0 n5 l k7 a_1 b_1).trans (congr1 (fun k0 => ref37_Bound.s0 n k0 n5 l k7 a_1 b_1) (funext fun n5' => funext fun k7' => ref37_Bound.l0.eq n l a_1 b_1 m0 n5' k7'))
theorem ref37_Bound.run0 (n : Nat) (x : pdens ref37_Bound.ps) : Vi.run (ref37_Bound.C n) n f36 ref37_Bound.ps ref37_Bound.rs x = ref37_Bound.s n (fun (n5' : Int) (l' : (List (List Int))) (k7' : Int) (a_1' : Flat) (b_1' : Flat) => it (EmR.no _) (ref37_Bound.C n) n (Code.go ref37_Bound.code [1, 1, 1, 0, 1, 0, 0]) (blockK 0 (seqK (EmR.no _) (ref37_Bound.C n) n (Code.go ref37_Bound.code [1, 1, 1, 1]) (bodyK (ref37_Bound.C n) f36 ref37_Bound.rs))) n ⟨[(2, .ptr 2 0 TFlat []), (3, .ptr 3 0 TFlat []), (5, .dat (.int .i64) (n5')), (6, .lst (.tip 100006 0) (.arr 2 (.int .i64)) (l')), (7, .dat (.int .i64) (k7'))], [(100006, .tok 0), (2, .box 0 false (.dat TFlat (a_1'))), (3, .box 0 false (.dat TFlat (b_1')))]⟩) x.1 x.2 := by kernel_rfl
theorem ref37_Bound.eq (n : Nat) (x : pdens ref37_Bound.ps) : Vi.run (ref37_Bound.C n) n f36 ref37_Bound.ps ref37_Bound.rs x = ref37_Bound n x.1 x.2 :=
  (ref37_Bound.run0 n x).trans (congr1 (fun k0 => ref37_Bound.s n k0 x.1 x.2) (funext fun n5' => funext fun l' => funext fun k7' => funext fun a_1' => funext fun b_1' => ref37_Bound.l0.eq n l' a_1' b_1' n n5' k7'))
theorem ref37_Bound.sound (n : Nat) : SoundE prog 36 (ref37_Bound.e n) :=
  soundE_of_run (C := ref37_Bound.C n) (n := n) (ref37_Bound.ok n) func36 (by kernel_rfl) (by kernel_rfl) (fun x r h => (ref37_Bound.eq n x).trans h)

def law37_light.rs : List RTy := [.data .bool]
def law37_light.ps : List PTy := [.data TFlat, .data TFlat, .data (.int .i64)]
noncomputable def law37_light.e (n : Nat) : Ent := ⟨law37_light.ps, law37_light.rs, fun x => law37_light n x.1 x.2.1 x.2.2⟩
noncomputable def law37_light.C (n : Nat) : Ctx := { tab := tab, fts := fts, pts := pts, Γ := lookO [(24, law37_few.e n), (36, ref37_Bound.e n)], Γc := lookO [], Γs := lookO [], Γm := lookO [], ntmps := f19.ntmps, keep := Vi.look ([], []) [], pins := [] }
theorem law37_light.ok (n : Nat) : CtxOk prog (law37_light.C n) := ⟨types, ftsOk_, ptsOk_, (fns_cons (law37_few.sound n) (fns_cons (ref37_Bound.sound n) fns_nil)), cls_nil, sqs_nil, ems_nil, mixed⟩
theorem law37_light.eq (n : Nat) (x : pdens law37_light.ps) : Vi.run (law37_light.C n) n f19 law37_light.ps law37_light.rs x = law37_light n x.1 x.2.1 x.2.2 := by kernel_rfl
theorem law37_light.sound (n : Nat) : SoundE prog 19 (law37_light.e n) :=
  soundE_of_run (C := law37_light.C n) (n := n) (law37_light.ok n) func19 (by kernel_rfl) (by kernel_rfl) (fun x r h => (law37_light.eq n x).trans h)
def law37_light.g (n : Nat) (x : pdens (law37_light.τs.map PTy.data)) : Option Bool := law37_light n x.1 x.2.1 x.2.2
theorem law37_light.soundN (n : Nat) : SoundE prog 19 ⟨law37_light.τs.map PTy.data, [.data .bool], law37_light.g n⟩ := law37_light.sound n

def cube_All.rs : List RTy := [.data TCube]
def cube_All.ps : List PTy := []
noncomputable def cube_All.e (n : Nat) : Ent := ⟨cube_All.ps, cube_All.rs, fun x => some (cube_All)⟩
noncomputable def cube_All.C (n : Nat) : Ctx := { tab := tab, fts := fts, pts := pts, Γ := lookO [], Γc := lookO [], Γs := lookO [], Γm := lookO [], ntmps := f51.ntmps, keep := Vi.look ([], []) [], pins := [] }
theorem cube_All.ok (n : Nat) : CtxOk prog (cube_All.C n) := ⟨types, ftsOk_, ptsOk_, fns_nil, cls_nil, sqs_nil, ems_nil, mixed⟩
theorem cube_All.eq (n : Nat) (x : pdens cube_All.ps) : Vi.run (cube_All.C n) n f51 cube_All.ps cube_All.rs x = some (cube_All) := by kernel_rfl
theorem cube_All.sound (n : Nat) : SoundE prog 51 (cube_All.e n) :=
  soundE_of_run (C := cube_All.C n) (n := n) (cube_All.ok n) func51 (by kernel_rfl) (by kernel_rfl) (fun x r h => (cube_All.eq n x).trans h)

def region_both_meet.rs : List RTy := [.data TCube, .data .bool]
def region_both_meet.ps : List PTy := [.data TBoth, .data (.int .i64), .data (.int .i64)]
noncomputable def region_both_meet.e (n : Nat) : Ent := ⟨region_both_meet.ps, region_both_meet.rs, fun x => region_both_meet n x.1 x.2.1 x.2.2⟩
noncomputable def region_both_meet.C (n : Nat) : Ctx := { tab := tab, fts := fts, pts := pts, Γ := lookO [(53, cube_Meet.e n)], Γc := lookO [], Γs := lookO [], Γm := lookO [], ntmps := f52.ntmps, keep := Vi.look ([], []) [], pins := [] }
theorem region_both_meet.ok (n : Nat) : CtxOk prog (region_both_meet.C n) := ⟨types, ftsOk_, ptsOk_, (fns_cons (cube_Meet.sound n) fns_nil), cls_nil, sqs_nil, ems_nil, mixed⟩
theorem region_both_meet.eq (n : Nat) (x : pdens region_both_meet.ps) : Vi.run (region_both_meet.C n) n f52 region_both_meet.ps region_both_meet.rs x = region_both_meet n x.1 x.2.1 x.2.2 := by kernel_rfl
theorem region_both_meet.sound (n : Nat) : SoundE prog 52 (region_both_meet.e n) :=
  soundE_of_run (C := region_both_meet.C n) (n := n) (region_both_meet.ok n) func52 (by kernel_rfl) (by kernel_rfl) (fun x r h => (region_both_meet.eq n x).trans h)

def region_both_ahead.rs : List RTy := [.fresh TCube]
def region_both_ahead.ps : List PTy := [.data TBoth, .data (.int .i64), .data (.int .i64)]
noncomputable def region_both_ahead.e (n : Nat) : Ent := ⟨region_both_ahead.ps, region_both_ahead.rs, fun x => region_both_ahead n x.1 x.2.1 x.2.2⟩
noncomputable def region_both_ahead.C (n : Nat) : Ctx := { tab := tab, fts := fts, pts := pts, Γ := lookO [(42, shadow_Cubes.e n)], Γc := lookO [], Γs := lookO [], Γm := lookO [], ntmps := f54.ntmps, keep := Vi.look ([], []) [], pins := [] }
theorem region_both_ahead.ok (n : Nat) : CtxOk prog (region_both_ahead.C n) := ⟨types, ftsOk_, ptsOk_, (fns_cons (shadow_Cubes.sound n) fns_nil), cls_nil, sqs_nil, ems_nil, mixed⟩
theorem region_both_ahead.eq (n : Nat) (x : pdens region_both_ahead.ps) : Vi.run (region_both_ahead.C n) n f54 region_both_ahead.ps region_both_ahead.rs x = region_both_ahead n x.1 x.2.1 x.2.2 := by kernel_rfl
theorem region_both_ahead.sound (n : Nat) : SoundE prog 54 (region_both_ahead.e n) :=
  soundE_of_run (C := region_both_ahead.C n) (n := n) (region_both_ahead.ok n) func54 (by kernel_rfl) (by kernel_rfl) (fun x r h => (region_both_ahead.eq n x).trans h)

def region_Look.rs : List RTy := [.data THeader, .data .bool, .data (.int .i64)]
def region_Look.ps : List PTy := [.data TFlat, .data TFlat, .data (.int .i64), .data (.int .i64), .data TCube, .data (.int .i64)]
noncomputable def region_Look.e (n : Nat) : Ent := ⟨region_Look.ps, region_Look.rs, fun x => region_Look n x.1 x.2.1 x.2.2.1 x.2.2.2.1 x.2.2.2.2.1 x.2.2.2.2.2⟩
noncomputable def region_Look.C (n : Nat) : Ctx := { tab := tab, fts := fts, pts := pts, Γ := lookO [(44, cover_Look.e n), (52, region_both_meet.e n), (53, cube_Meet.e n), (54, region_both_ahead.e n)], Γc := lookO [], Γs := lookO [], Γm := lookO [], ntmps := f21.ntmps, keep := Vi.look ([], []) [], pins := [] }
theorem region_Look.ok (n : Nat) : CtxOk prog (region_Look.C n) := ⟨types, ftsOk_, ptsOk_, (fns_cons (cover_Look.sound n) (fns_cons (region_both_meet.sound n) (fns_cons (cube_Meet.sound n) (fns_cons (region_both_ahead.sound n) fns_nil)))), cls_nil, sqs_nil, ems_nil, mixed⟩
theorem region_Look.eq (n : Nat) (x : pdens region_Look.ps) : Vi.run (region_Look.C n) n f21 region_Look.ps region_Look.rs x = region_Look n x.1 x.2.1 x.2.2.1 x.2.2.2.1 x.2.2.2.2.1 x.2.2.2.2.2 := by kernel_rfl
theorem region_Look.sound (n : Nat) : SoundE prog 21 (region_Look.e n) :=
  soundE_of_run (C := region_Look.C n) (n := n) (region_Look.ok n) func21 (by kernel_rfl) (by kernel_rfl) (fun x r h => (region_Look.eq n x).trans h)

def region_Meet.rs : List RTy := [.data TCube, .data .bool]
def region_Meet.ps : List PTy := [.data TFlat, .data TFlat, .data (.int .i64), .data (.int .i64)]
noncomputable def region_Meet.e (n : Nat) : Ent := ⟨region_Meet.ps, region_Meet.rs, fun x => region_Meet n x.1 x.2.1 x.2.2.1 x.2.2.2⟩
noncomputable def region_Meet.C (n : Nat) : Ctx := { tab := tab, fts := fts, pts := pts, Γ := lookO [(52, region_both_meet.e n)], Γc := lookO [], Γs := lookO [], Γm := lookO [], ntmps := f25.ntmps, keep := Vi.look ([], []) [], pins := [] }
theorem region_Meet.ok (n : Nat) : CtxOk prog (region_Meet.C n) := ⟨types, ftsOk_, ptsOk_, (fns_cons (region_both_meet.sound n) fns_nil), cls_nil, sqs_nil, ems_nil, mixed⟩
theorem region_Meet.eq (n : Nat) (x : pdens region_Meet.ps) : Vi.run (region_Meet.C n) n f25 region_Meet.ps region_Meet.rs x = region_Meet n x.1 x.2.1 x.2.2.1 x.2.2.2 := by kernel_rfl
theorem region_Meet.sound (n : Nat) : SoundE prog 25 (region_Meet.e n) :=
  soundE_of_run (C := region_Meet.C n) (n := n) (region_Meet.ok n) func25 (by kernel_rfl) (by kernel_rfl) (fun x r h => (region_Meet.eq n x).trans h)

def region_both_pairs_c.es : List Ty := [(.arr 2 (.int .i64)), TCube]
def region_both_pairs_c.ps : List PTy := [.data TBoth]
def region_both_pairs_c.caps : List PTy := []
noncomputable def region_both_pairs_c.e (n : Nat) : Sq := ⟨region_both_pairs_c.es, region_both_pairs_c.ps, region_both_pairs_c.caps, fun x c => region_both_pairs_c n x⟩
noncomputable def region_both_pairs_c.C (n : Nat) : Ctx := { tab := tab, fts := fts, pts := pts, Γ := lookO [(52, region_both_meet.e n)], Γc := lookO [], Γs := lookO [], Γm := lookO [], ntmps := f56.ntmps, keep := Vi.look ([], []) [(2, ([1, 2, 11, 12], [2])), (5, ([1, 2, 4, 11, 12, 18, 19], [2]))], pins := [] }
theorem region_both_pairs_c.ok (n : Nat) : CtxOk prog (region_both_pairs_c.C n) := ⟨types, ftsOk_, ptsOk_, (fns_cons (region_both_meet.sound n) fns_nil), cls_nil, sqs_nil, ems_nil, mixed⟩
noncomputable def region_both_pairs_c.code : Code := bodyOf f56
theorem region_both_pairs_c.l1.step (n : Nat) (m0 : Nat) (m1 : Nat) (i : Int) (v11_1 : Int) (v12_1 : Int) (v18 : Int) (v19 : Int) (t_2 : Both) : it (EmR.seq region_both_pairs_c.es) (region_both_pairs_c.C n) n (Code.go region_both_pairs_c.code [1, 0, 1, 1, 0, 0, 1, 1, 0, 0, 1, 1, 0, 0]) (blockK 2 (blockK 1 (seqK (EmR.seq region_both_pairs_c.es) (region_both_pairs_c.C n) n (Code.go region_both_pairs_c.code [1, 0, 1, 1, 0, 0, 1, 1, 1]) (loopK (EmR.seq region_both_pairs_c.es) (region_both_pairs_c.C n) n (Code.go region_both_pairs_c.code [1, 0, 1, 1, 0, 0]) (blockK 0 (bodyKQ region_both_pairs_c.es)) m0)))) (m1 + 1) ⟨[(1, .yld [(.arr 2 (.int .i64)), TCube]), (2, .ptr 2 0 TBoth []), (4, .dat (.int .i64) i), (11, .dat (.int .i64) v11_1), (12, .dat (.int .i64) v12_1), (18, .dat (.int .i64) v18), (19, .dat (.int .i64) v19)], [(2, .box 0 false (.dat TBoth t_2))]⟩ = region_both_pairs_c.s1 n (fun (v19' : Int) => it (EmR.seq region_both_pairs_c.es) (region_both_pairs_c.C n) n (Code.go region_both_pairs_c.code [1, 0, 1, 1, 0, 0, 1, 1, 0, 0, 1, 1, 0, 0]) (blockK 2 (blockK 1 (seqK (EmR.seq region_both_pairs_c.es) (region_both_pairs_c.C n) n (Code.go region_both_pairs_c.code [1, 0, 1, 1, 0, 0, 1, 1, 1]) (loopK (EmR.seq region_both_pairs_c.es) (region_both_pairs_c.C n) n (Code.go region_both_pairs_c.code [1, 0, 1, 1, 0, 0]) (blockK 0 (bodyKQ region_both_pairs_c.es)) m0)))) m1 ⟨[(1, .yld [(.arr 2 (.int .i64)), TCube]), (2, .ptr 2 0 TBoth []), (4, .dat (.int .i64) i), (11, .dat (.int .i64) v11_1), (12, .dat (.int .i64) v12_1), (18, .dat (.int .i64) v18), (19, .dat (.int .i64) (v19'))], [(2, .box 0 false (.dat TBoth t_2))]⟩) (fun (v11' : Int) (v12' : Int) (t_1' : Both) => it (EmR.seq region_both_pairs_c.es) (region_both_pairs_c.C n) n (Code.go region_both_pairs_c.code [1, 0, 1, 1, 0, 0]) (blockK 0 (bodyKQ region_both_pairs_c.es)) m0 ⟨[(1, .yld [(.arr 2 (.int .i64)), TCube]), (2, .ptr 2 0 TBoth []), (11, .dat (.int .i64) (v11')), (12, .dat (.int .i64) (v12'))], [(2, .box 0 false (.dat TBoth (t_1')))]⟩) i v11_1 v12_1 v18 v19 t_2 := by kernel_rfl
theorem region_both_pairs_c.l1.eq (n : Nat) (m0 : Nat) (i : Int) (v11_1 : Int) (v12_1 : Int) (v18 : Int) (t_2 : Both) : ∀ (m1 : Nat) (v19 : Int), it (EmR.seq region_both_pairs_c.es) (region_both_pairs_c.C n) n (Code.go region_both_pairs_c.code [1, 0, 1, 1, 0, 0, 1, 1, 0, 0, 1, 1, 0, 0]) (blockK 2 (blockK 1 (seqK (EmR.seq region_both_pairs_c.es) (region_both_pairs_c.C n) n (Code.go region_both_pairs_c.code [1, 0, 1, 1, 0, 0, 1, 1, 1]) (loopK (EmR.seq region_both_pairs_c.es) (region_both_pairs_c.C n) n (Code.go region_both_pairs_c.code [1, 0, 1, 1, 0, 0]) (blockK 0 (bodyKQ region_both_pairs_c.es)) m0)))) m1 ⟨[(1, .yld [(.arr 2 (.int .i64)), TCube]), (2, .ptr 2 0 TBoth []), (4, .dat (.int .i64) i), (11, .dat (.int .i64) v11_1), (12, .dat (.int .i64) v12_1), (18, .dat (.int .i64) v18), (19, .dat (.int .i64) v19)], [(2, .box 0 false (.dat TBoth t_2))]⟩ = region_both_pairs_c.l1 n i v11_1 v12_1 v18 t_2 (fun (v11'' : Int) (v12'' : Int) (t_1'' : Both) => it (EmR.seq region_both_pairs_c.es) (region_both_pairs_c.C n) n (Code.go region_both_pairs_c.code [1, 0, 1, 1, 0, 0]) (blockK 0 (bodyKQ region_both_pairs_c.es)) m0 ⟨[(1, .yld [(.arr 2 (.int .i64)), TCube]), (2, .ptr 2 0 TBoth []), (11, .dat (.int .i64) (v11'')), (12, .dat (.int .i64) (v12''))], [(2, .box 0 false (.dat TBoth (t_1'')))]⟩) m1 v19
  | 0, _ => rfl
  | m1 + 1, v19 =>
    (region_both_pairs_c.l1.step n m0 m1 i v11_1 v12_1 v18 v19 t_2).trans (congr2 (fun k1 k0 => region_both_pairs_c.s1 n k1 k0 i v11_1 v12_1 v18 v19 t_2) (funext fun v19' => region_both_pairs_c.l1.eq n m0 i v11_1 v12_1 v18 t_2 m1 v19') rfl)
theorem region_both_pairs_c.l0.step (n : Nat) (m0 : Nat) (v11 : Int) (v12 : Int) (t_1 : Both) : it (EmR.seq region_both_pairs_c.es) (region_both_pairs_c.C n) n (Code.go region_both_pairs_c.code [1, 0, 1, 1, 0, 0]) (blockK 0 (bodyKQ region_both_pairs_c.es)) (m0 + 1) ⟨[(1, .yld [(.arr 2 (.int .i64)), TCube]), (2, .ptr 2 0 TBoth []), (11, .dat (.int .i64) v11), (12, .dat (.int .i64) v12)], [(2, .box 0 false (.dat TBoth t_1))]⟩ = region_both_pairs_c.s0 n (fun (i' : Int) (v11_1' : Int) (v12_1' : Int) (v18' : Int) (v19' : Int) (t_2' : Both) => it (EmR.seq region_both_pairs_c.es) (region_both_pairs_c.C n) n (Code.go region_both_pairs_c.code [1, 0, 1, 1, 0, 0, 1, 1, 0, 0, 1, 1, 0, 0]) (blockK 2 (blockK 1 (seqK (EmR.seq region_both_pairs_c.es) (region_both_pairs_c.C n) n (Code.go region_both_pairs_c.code [1, 0, 1, 1, 0, 0, 1, 1, 1]) (loopK (EmR.seq region_both_pairs_c.es) (region_both_pairs_c.C n) n (Code.go region_both_pairs_c.code [1, 0, 1, 1, 0, 0]) (blockK 0 (bodyKQ region_both_pairs_c.es)) m0)))) n ⟨[(1, .yld [(.arr 2 (.int .i64)), TCube]), (2, .ptr 2 0 TBoth []), (4, .dat (.int .i64) (i')), (11, .dat (.int .i64) (v11_1')), (12, .dat (.int .i64) (v12_1')), (18, .dat (.int .i64) (v18')), (19, .dat (.int .i64) (v19'))], [(2, .box 0 false (.dat TBoth (t_2')))]⟩) v11 v12 t_1 := by kernel_rfl
theorem region_both_pairs_c.l0.eq (n : Nat) (v11 : Int) (t_1 : Both) : ∀ (m0 : Nat) (v12 : Int), it (EmR.seq region_both_pairs_c.es) (region_both_pairs_c.C n) n (Code.go region_both_pairs_c.code [1, 0, 1, 1, 0, 0]) (blockK 0 (bodyKQ region_both_pairs_c.es)) m0 ⟨[(1, .yld [(.arr 2 (.int .i64)), TCube]), (2, .ptr 2 0 TBoth []), (11, .dat (.int .i64) v11), (12, .dat (.int .i64) v12)], [(2, .box 0 false (.dat TBoth t_1))]⟩ = region_both_pairs_c.l0 n v11 t_1 m0 v12
  | 0, _ => rfl
  | m0 + 1, v12 =>
    (region_both_pairs_c.l0.step n m0 v11 v12 t_1).trans (congr1 (fun k1 => region_both_pairs_c.s0 n k1 v11 v12 t_1) (funext fun i' => funext fun v11_1' => funext fun v12_1' => funext fun v18' => funext fun v19' => funext fun t_2' => (region_both_pairs_c.l1.eq n m0 i' v11_1' v12_1' v18' t_2' n v19').trans (congr1 (fun kk => region_both_pairs_c.l1 n i' v11_1' v12_1' v18' t_2' kk n v19') (funext fun v11'' => funext fun v12'' => funext fun t_1'' => region_both_pairs_c.l0.eq n v11'' t_1'' m0 v12''))))
theorem region_both_pairs_c.run0 (n : Nat) (x : pdens region_both_pairs_c.ps) (c : pdens region_both_pairs_c.caps) : Vi.runQ (region_both_pairs_c.C n) n f56 region_both_pairs_c.ps region_both_pairs_c.es region_both_pairs_c.caps x c = region_both_pairs_c.s n (fun (v11' : Int) (v12' : Int) (t_1' : Both) => it (EmR.seq region_both_pairs_c.es) (region_both_pairs_c.C n) n (Code.go region_both_pairs_c.code [1, 0, 1, 1, 0, 0]) (blockK 0 (bodyKQ region_both_pairs_c.es)) n ⟨[(1, .yld [(.arr 2 (.int .i64)), TCube]), (2, .ptr 2 0 TBoth []), (11, .dat (.int .i64) (v11')), (12, .dat (.int .i64) (v12'))], [(2, .box 0 false (.dat TBoth (t_1')))]⟩) x := by kernel_rfl
theorem region_both_pairs_c.eq (n : Nat) (x : pdens region_both_pairs_c.ps) (c : pdens region_both_pairs_c.caps) : Vi.runQ (region_both_pairs_c.C n) n f56 region_both_pairs_c.ps region_both_pairs_c.es region_both_pairs_c.caps x c = region_both_pairs_c n x :=
  (region_both_pairs_c.run0 n x c).trans (congr1 (fun k0 => region_both_pairs_c.s n k0 x) (funext fun v11' => funext fun v12' => funext fun t_1' => region_both_pairs_c.l0.eq n v11' t_1' n v12'))
theorem region_both_pairs_c.sound (n : Nat) : SoundQ prog 56 (region_both_pairs_c.e n) :=
  soundQ_of_run (C := region_both_pairs_c.C n) (n := n) (region_both_pairs_c.ok n) func56 (by kernel_rfl) (by kernel_rfl) (fun x c r h => (region_both_pairs_c.eq n x c).trans h)

def region_Bound.rs : List RTy := [.data (.int .i64)]
def region_Bound.ps : List PTy := [.data TFlat, .data TFlat]
noncomputable def region_Bound.e (n : Nat) : Ent := ⟨region_Bound.ps, region_Bound.rs, fun x => region_Bound n x.1 x.2⟩
noncomputable def region_Bound.C (n : Nat) : Ctx := { tab := tab, fts := fts, pts := pts, Γ := lookO [(46, cover_Bound.e n), (54, region_both_ahead.e n)], Γc := lookO [], Γs := lookO [(56, region_both_pairs_c.e n)], Γm := lookO [], ntmps := f23.ntmps, keep := Vi.look ([], []) [(100004, ([5, 6], [5, 6]))], pins := [] }
theorem region_Bound.ok (n : Nat) : CtxOk prog (region_Bound.C n) := ⟨types, ftsOk_, ptsOk_, (fns_cons (cover_Bound.sound n) (fns_cons (region_both_ahead.sound n) fns_nil)), cls_nil, (sqs_cons (region_both_pairs_c.sound n) sqs_nil), ems_nil, mixed⟩
noncomputable def region_Bound.code : Code := bodyOf f23
theorem region_Bound.l0.stepz (n : Nat) (t : Both) (n6 : Int) : itS (EmR.no _) (region_Bound.C n) n (Code.go region_Bound.code [1, 1, 1, 0, 1, 0]) [(.arr 2 (.int .i64)), TCube] [(5, .ptr 5 0 TBoth []), (6, .ptr 6 0 (.int .i64) [])] (blockK 0 (seqK (EmR.no _) (region_Bound.C n) n (Code.go region_Bound.code [1, 1, 1, 1]) (bodyK (region_Bound.C n) f23 region_Bound.rs))) [] [(5, .box 0 false (.dat TBoth t)), (6, .box 0 false (.dat (.int .i64) n6))] = region_Bound.z0 n t n6 := by kernel_rfl
theorem region_Bound.l0.step (n : Nat) (xs : (List ((List Int) × Cube))) (t : Both) (n6 : Int) (x : ((List Int) × Cube)) : itS (EmR.no _) (region_Bound.C n) n (Code.go region_Bound.code [1, 1, 1, 0, 1, 0]) [(.arr 2 (.int .i64)), TCube] [(5, .ptr 5 0 TBoth []), (6, .ptr 6 0 (.int .i64) [])] (blockK 0 (seqK (EmR.no _) (region_Bound.C n) n (Code.go region_Bound.code [1, 1, 1, 1]) (bodyK (region_Bound.C n) f23 region_Bound.rs))) (x :: xs) [(5, .box 0 false (.dat TBoth t)), (6, .box 0 false (.dat (.int .i64) n6))] = region_Bound.s0 n (fun (n6' : Int) => itS (EmR.no _) (region_Bound.C n) n (Code.go region_Bound.code [1, 1, 1, 0, 1, 0]) [(.arr 2 (.int .i64)), TCube] [(5, .ptr 5 0 TBoth []), (6, .ptr 6 0 (.int .i64) [])] (blockK 0 (seqK (EmR.no _) (region_Bound.C n) n (Code.go region_Bound.code [1, 1, 1, 1]) (bodyK (region_Bound.C n) f23 region_Bound.rs))) xs [(5, .box 0 false (.dat TBoth t)), (6, .box 0 false (.dat (.int .i64) (n6')))]) t n6 x := by kernel_rfl
theorem region_Bound.l0.eq (n : Nat) (t : Both) : ∀ (xs : (List ((List Int) × Cube))) (n6 : Int), itS (EmR.no _) (region_Bound.C n) n (Code.go region_Bound.code [1, 1, 1, 0, 1, 0]) [(.arr 2 (.int .i64)), TCube] [(5, .ptr 5 0 TBoth []), (6, .ptr 6 0 (.int .i64) [])] (blockK 0 (seqK (EmR.no _) (region_Bound.C n) n (Code.go region_Bound.code [1, 1, 1, 1]) (bodyK (region_Bound.C n) f23 region_Bound.rs))) xs [(5, .box 0 false (.dat TBoth t)), (6, .box 0 false (.dat (.int .i64) n6))] = region_Bound.l0 n t xs n6
  | [], n6 => region_Bound.l0.stepz n t n6
  | x :: xs, n6 => (region_Bound.l0.step n xs t n6 x).trans (congr1 (fun k0 => region_Bound.s0 n k0 t n6 x) (funext fun n6' => region_Bound.l0.eq n t xs n6'))
theorem region_Bound.run0 (n : Nat) (x : pdens region_Bound.ps) : Vi.run (region_Bound.C n) n f23 region_Bound.ps region_Bound.rs x = region_Bound.s n (fun (xs' : (List ((List Int) × Cube))) (t' : Both) (n6' : Int) => itS (EmR.no _) (region_Bound.C n) n (Code.go region_Bound.code [1, 1, 1, 0, 1, 0]) [(.arr 2 (.int .i64)), TCube] [(5, .ptr 5 0 TBoth []), (6, .ptr 6 0 (.int .i64) [])] (blockK 0 (seqK (EmR.no _) (region_Bound.C n) n (Code.go region_Bound.code [1, 1, 1, 1]) (bodyK (region_Bound.C n) f23 region_Bound.rs))) xs' [(5, .box 0 false (.dat TBoth (t'))), (6, .box 0 false (.dat (.int .i64) (n6')))]) x.1 x.2 := by kernel_rfl
theorem region_Bound.eq (n : Nat) (x : pdens region_Bound.ps) : Vi.run (region_Bound.C n) n f23 region_Bound.ps region_Bound.rs x = region_Bound n x.1 x.2 :=
  (region_Bound.run0 n x).trans (congr1 (fun k0 => region_Bound.s n k0 x.1 x.2) (funext fun xs' => funext fun t' => funext fun n6' => region_Bound.l0.eq n t' xs' n6'))
theorem region_Bound.sound (n : Nat) : SoundE prog 23 (region_Bound.e n) :=
  soundE_of_run (C := region_Bound.C n) (n := n) (region_Bound.ok n) func23 (by kernel_rfl) (by kernel_rfl) (fun x r h => (region_Bound.eq n x).trans h)

def region_Pairs_1.es : List Ty := [(.int .i64), (.int .i64)]
def region_Pairs_1.ps : List PTy := []
def region_Pairs_1.caps : List PTy := [.cptr TBoth]
noncomputable def region_Pairs_1.e (n : Nat) : Sq := ⟨region_Pairs_1.es, region_Pairs_1.ps, region_Pairs_1.caps, fun x c => region_Pairs_1 n c⟩
noncomputable def region_Pairs_1.C (n : Nat) : Ctx := { tab := tab, fts := fts, pts := pts, Γ := lookO [], Γc := lookO [], Γs := lookO [(56, region_both_pairs_c.e n)], Γm := lookO [], ntmps := f63.ntmps, keep := Vi.look ([], []) [(100002, ([2], [2]))], pins := [] }
theorem region_Pairs_1.ok (n : Nat) : CtxOk prog (region_Pairs_1.C n) := ⟨types, ftsOk_, ptsOk_, fns_nil, cls_nil, (sqs_cons (region_both_pairs_c.sound n) sqs_nil), ems_nil, mixed⟩
noncomputable def region_Pairs_1.code : Code := bodyOf f63
theorem region_Pairs_1.l0.stepz (n : Nat) : itS (EmR.seq region_Pairs_1.es) (region_Pairs_1.C n) n (Code.go region_Pairs_1.code [1, 1, 0]) [(.arr 2 (.int .i64)), TCube] [(2, .ptr 2 0 .unit [])] (blockK 0 (bodyKQ region_Pairs_1.es)) [] [(2, .box 0 false (.yld [(.int .i64), (.int .i64)]))] = region_Pairs_1.z0 n := by kernel_rfl
theorem region_Pairs_1.l0.step (n : Nat) (xs : (List ((List Int) × Cube))) (x : ((List Int) × Cube)) : itS (EmR.seq region_Pairs_1.es) (region_Pairs_1.C n) n (Code.go region_Pairs_1.code [1, 1, 0]) [(.arr 2 (.int .i64)), TCube] [(2, .ptr 2 0 .unit [])] (blockK 0 (bodyKQ region_Pairs_1.es)) (x :: xs) [(2, .box 0 false (.yld [(.int .i64), (.int .i64)]))] = region_Pairs_1.s0 n (itS (EmR.seq region_Pairs_1.es) (region_Pairs_1.C n) n (Code.go region_Pairs_1.code [1, 1, 0]) [(.arr 2 (.int .i64)), TCube] [(2, .ptr 2 0 .unit [])] (blockK 0 (bodyKQ region_Pairs_1.es)) xs [(2, .box 0 false (.yld [(.int .i64), (.int .i64)]))]) x := by kernel_rfl
theorem region_Pairs_1.l0.eq (n : Nat) : ∀ (xs : (List ((List Int) × Cube))), itS (EmR.seq region_Pairs_1.es) (region_Pairs_1.C n) n (Code.go region_Pairs_1.code [1, 1, 0]) [(.arr 2 (.int .i64)), TCube] [(2, .ptr 2 0 .unit [])] (blockK 0 (bodyKQ region_Pairs_1.es)) xs [(2, .box 0 false (.yld [(.int .i64), (.int .i64)]))] = region_Pairs_1.l0 n xs
  | [] => region_Pairs_1.l0.stepz n
  | x :: xs => (region_Pairs_1.l0.step n xs x).trans (congr1 (fun k0 => region_Pairs_1.s0 n k0  x) (region_Pairs_1.l0.eq n xs))
theorem region_Pairs_1.run0 (n : Nat) (x : pdens region_Pairs_1.ps) (c : pdens region_Pairs_1.caps) : Vi.runQ (region_Pairs_1.C n) n f63 region_Pairs_1.ps region_Pairs_1.es region_Pairs_1.caps x c = region_Pairs_1.s n (fun (xs' : (List ((List Int) × Cube))) => itS (EmR.seq region_Pairs_1.es) (region_Pairs_1.C n) n (Code.go region_Pairs_1.code [1, 1, 0]) [(.arr 2 (.int .i64)), TCube] [(2, .ptr 2 0 .unit [])] (blockK 0 (bodyKQ region_Pairs_1.es)) xs' [(2, .box 0 false (.yld [(.int .i64), (.int .i64)]))]) c := by kernel_rfl
theorem region_Pairs_1.eq (n : Nat) (x : pdens region_Pairs_1.ps) (c : pdens region_Pairs_1.caps) : Vi.runQ (region_Pairs_1.C n) n f63 region_Pairs_1.ps region_Pairs_1.es region_Pairs_1.caps x c = region_Pairs_1 n c :=
  (region_Pairs_1.run0 n x c).trans (congr1 (fun k0 => region_Pairs_1.s n k0 c) (funext fun xs' => region_Pairs_1.l0.eq n xs'))
theorem region_Pairs_1.sound (n : Nat) : SoundQ prog 63 (region_Pairs_1.e n) :=
  soundQ_of_run (C := region_Pairs_1.C n) (n := n) (region_Pairs_1.ok n) func63 (by kernel_rfl) (by kernel_rfl) (fun x c r h => (region_Pairs_1.eq n x c).trans h)

def region_Pairs.rs : List RTy := [.seqr [(.int .i64), (.int .i64)]]
def region_Pairs.ps : List PTy := [.data TFlat, .data TFlat]
noncomputable def region_Pairs.e (n : Nat) : Ent := ⟨region_Pairs.ps, region_Pairs.rs, fun x => region_Pairs n x.1 x.2⟩
noncomputable def region_Pairs.C (n : Nat) : Ctx := { tab := tab, fts := fts, pts := pts, Γ := lookO [], Γc := lookO [], Γs := lookO [(63, region_Pairs_1.e n)], Γm := lookO [], ntmps := f31.ntmps, keep := Vi.look ([], []) [], pins := [] }
theorem region_Pairs.ok (n : Nat) : CtxOk prog (region_Pairs.C n) := ⟨types, ftsOk_, ptsOk_, fns_nil, cls_nil, (sqs_cons (region_Pairs_1.sound n) sqs_nil), ems_nil, mixed⟩
theorem region_Pairs.eq (n : Nat) (x : pdens region_Pairs.ps) : Vi.run (region_Pairs.C n) n f31 region_Pairs.ps region_Pairs.rs x = region_Pairs n x.1 x.2 := by kernel_rfl
theorem region_Pairs.sound (n : Nat) : SoundE prog 31 (region_Pairs.e n) :=
  soundE_of_run (C := region_Pairs.C n) (n := n) (region_Pairs.ok n) func31 (by kernel_rfl) (by kernel_rfl) (fun x r h => (region_Pairs.eq n x).trans h)

def law37_all.rs : List RTy := [.fresh (.arr 2 (.int .i64))]
def law37_all.ps : List PTy := [.data TFlat, .data TFlat]
noncomputable def law37_all.e (n : Nat) : Ent := ⟨law37_all.ps, law37_all.rs, fun x => law37_all n x.1 x.2⟩
noncomputable def law37_all.C (n : Nat) : Ctx := { tab := tab, fts := fts, pts := pts, Γ := lookO [(31, region_Pairs.e n)], Γc := lookO [], Γs := lookO [], Γm := lookO [], ntmps := f34.ntmps, keep := Vi.look ([], []) [(100003, ([5], [5]))], pins := [] }
theorem law37_all.ok (n : Nat) : CtxOk prog (law37_all.C n) := ⟨types, ftsOk_, ptsOk_, (fns_cons (region_Pairs.sound n) fns_nil), cls_nil, sqs_nil, ems_nil, mixed⟩
noncomputable def law37_all.code : Code := bodyOf f34
theorem law37_all.l0.stepz (n : Nat) (out : (List (List Int))) : itS (EmR.no _) (law37_all.C n) n (Code.go law37_all.code [1, 1, 0, 1, 0]) [(.int .i64), (.int .i64)] [(5, .ptr 5 0 (.slc (.arr 2 (.int .i64))) [])] (blockK 0 (seqK (EmR.no _) (law37_all.C n) n (Code.go law37_all.code [1, 1, 1]) (bodyK (law37_all.C n) f34 law37_all.rs))) [] [(200005, .tok 0), (5, .box 0 false (.lst (.tip 200005 0) (.arr 2 (.int .i64)) out))] = law37_all.z0 n out := by kernel_rfl
theorem law37_all.l0.step (n : Nat) (xs : (List (Int × Int))) (out : (List (List Int))) (x : (Int × Int)) : itS (EmR.no _) (law37_all.C n) n (Code.go law37_all.code [1, 1, 0, 1, 0]) [(.int .i64), (.int .i64)] [(5, .ptr 5 0 (.slc (.arr 2 (.int .i64))) [])] (blockK 0 (seqK (EmR.no _) (law37_all.C n) n (Code.go law37_all.code [1, 1, 1]) (bodyK (law37_all.C n) f34 law37_all.rs))) (x :: xs) [(200005, .tok 0), (5, .box 0 false (.lst (.tip 200005 0) (.arr 2 (.int .i64)) out))] = law37_all.s0 n (fun (out' : (List (List Int))) => itS (EmR.no _) (law37_all.C n) n (Code.go law37_all.code [1, 1, 0, 1, 0]) [(.int .i64), (.int .i64)] [(5, .ptr 5 0 (.slc (.arr 2 (.int .i64))) [])] (blockK 0 (seqK (EmR.no _) (law37_all.C n) n (Code.go law37_all.code [1, 1, 1]) (bodyK (law37_all.C n) f34 law37_all.rs))) xs [(200005, .tok 0), (5, .box 0 false (.lst (.tip 200005 0) (.arr 2 (.int .i64)) (out')))]) out x := by kernel_rfl
theorem law37_all.l0.eq (n : Nat) : ∀ (xs : (List (Int × Int))) (out : (List (List Int))), itS (EmR.no _) (law37_all.C n) n (Code.go law37_all.code [1, 1, 0, 1, 0]) [(.int .i64), (.int .i64)] [(5, .ptr 5 0 (.slc (.arr 2 (.int .i64))) [])] (blockK 0 (seqK (EmR.no _) (law37_all.C n) n (Code.go law37_all.code [1, 1, 1]) (bodyK (law37_all.C n) f34 law37_all.rs))) xs [(200005, .tok 0), (5, .box 0 false (.lst (.tip 200005 0) (.arr 2 (.int .i64)) out))] = law37_all.l0 n xs out
  | [], out => law37_all.l0.stepz n out
  | x :: xs, out => (law37_all.l0.step n xs out x).trans (congr1 (fun k0 => law37_all.s0 n k0 out x) (funext fun out' => law37_all.l0.eq n xs out'))
theorem law37_all.run0 (n : Nat) (x : pdens law37_all.ps) : Vi.run (law37_all.C n) n f34 law37_all.ps law37_all.rs x = law37_all.s n (fun (xs' : (List (Int × Int))) (out' : (List (List Int))) => itS (EmR.no _) (law37_all.C n) n (Code.go law37_all.code [1, 1, 0, 1, 0]) [(.int .i64), (.int .i64)] [(5, .ptr 5 0 (.slc (.arr 2 (.int .i64))) [])] (blockK 0 (seqK (EmR.no _) (law37_all.C n) n (Code.go law37_all.code [1, 1, 1]) (bodyK (law37_all.C n) f34 law37_all.rs))) xs' [(200005, .tok 0), (5, .box 0 false (.lst (.tip 200005 0) (.arr 2 (.int .i64)) (out')))]) x.1 x.2 := by kernel_rfl
theorem law37_all.eq (n : Nat) (x : pdens law37_all.ps) : Vi.run (law37_all.C n) n f34 law37_all.ps law37_all.rs x = law37_all n x.1 x.2 :=
  (law37_all.run0 n x).trans (congr1 (fun k0 => law37_all.s n k0 x.1 x.2) (funext fun xs' => funext fun out' => law37_all.l0.eq n xs' out'))
theorem law37_all.sound (n : Nat) : SoundE prog 34 (law37_all.e n) :=
  soundE_of_run (C := law37_all.C n) (n := n) (law37_all.ok n) func34 (by kernel_rfl) (by kernel_rfl) (fun x r h => (law37_all.eq n x).trans h)

def law37_awake.rs : List RTy := [.data .bool]
def law37_awake.ps : List PTy := []
noncomputable def law37_awake.e (n : Nat) : Ent := ⟨law37_awake.ps, law37_awake.rs, fun x => law37_awake n⟩
noncomputable def law37_awake.C (n : Nat) : Ctx := { tab := tab, fts := fts, pts := pts, Γ := lookO [(21, region_Look.e n), (23, region_Bound.e n), (25, region_Meet.e n), (31, region_Pairs.e n), (34, law37_all.e n), (51, cube_All.e n)], Γc := lookO [], Γs := lookO [], Γm := lookO [], ntmps := f20.ntmps, keep := Vi.look ([], []) [], pins := [] }
theorem law37_awake.ok (n : Nat) : CtxOk prog (law37_awake.C n) := ⟨types, ftsOk_, ptsOk_, (fns_cons (region_Look.sound n) (fns_cons (region_Bound.sound n) (fns_cons (region_Meet.sound n) (fns_cons (region_Pairs.sound n) (fns_cons (law37_all.sound n) (fns_cons (cube_All.sound n) fns_nil)))))), cls_nil, sqs_nil, ems_nil, mixed⟩
theorem law37_awake.eq (n : Nat) (x : pdens law37_awake.ps) : Vi.run (law37_awake.C n) n f20 law37_awake.ps law37_awake.rs x = law37_awake n := by kernel_rfl
theorem law37_awake.sound (n : Nat) : SoundE prog 20 (law37_awake.e n) :=
  soundE_of_run (C := law37_awake.C n) (n := n) (law37_awake.ok n) func20 (by kernel_rfl) (by kernel_rfl) (fun x r h => (law37_awake.eq n x).trans h)

def ref37_Look.rs : List RTy := [.data THeader, .data .bool, .data (.int .i64)]
def ref37_Look.ps : List PTy := [.data TFlat, .data TFlat, .data (.int .i64), .data (.int .i64), .data TCube, .data (.int .i64)]
noncomputable def ref37_Look.e (n : Nat) : Ent := ⟨ref37_Look.ps, ref37_Look.rs, fun x => ref37_Look n x.1 x.2.1 x.2.2.1 x.2.2.2.1 x.2.2.2.2.1 x.2.2.2.2.2⟩
noncomputable def ref37_Look.C (n : Nat) : Ctx := { tab := tab, fts := fts, pts := pts, Γ := lookO [(32, ref37_Meet.e n), (43, ref34_Cubes.e n), (45, ref08_Look.e n), (55, ref06_Meet.e n)], Γc := lookO [], Γs := lookO [], Γm := lookO [], ntmps := f22.ntmps, keep := Vi.look ([], []) [], pins := [] }
theorem ref37_Look.ok (n : Nat) : CtxOk prog (ref37_Look.C n) := ⟨types, ftsOk_, ptsOk_, (fns_cons (ref37_Meet.sound n) (fns_cons (ref34_Cubes.sound n) (fns_cons (ref08_Look.sound n) (fns_cons (ref06_Meet.sound n) fns_nil)))), cls_nil, sqs_nil, ems_nil, mixed⟩
theorem ref37_Look.eq (n : Nat) (x : pdens ref37_Look.ps) : Vi.run (ref37_Look.C n) n f22 ref37_Look.ps ref37_Look.rs x = ref37_Look n x.1 x.2.1 x.2.2.1 x.2.2.2.1 x.2.2.2.2.1 x.2.2.2.2.2 := by kernel_rfl
theorem ref37_Look.sound (n : Nat) : SoundE prog 22 (ref37_Look.e n) :=
  soundE_of_run (C := ref37_Look.C n) (n := n) (ref37_Look.ok n) func22 (by kernel_rfl) (by kernel_rfl) (fun x r h => (ref37_Look.eq n x).trans h)

def law37_RegionLooks.rs : List RTy := [.data .bool]
def law37_RegionLooks.ps : List PTy := [.data TFlat, .data TFlat, .data (.int .i64), .data (.int .i64), .data TCube, .data (.int .i64)]
noncomputable def law37_RegionLooks.e (n : Nat) : Ent := ⟨law37_RegionLooks.ps, law37_RegionLooks.rs, fun x => law37_RegionLooks n x.1 x.2.1 x.2.2.1 x.2.2.2.1 x.2.2.2.2.1 x.2.2.2.2.2⟩
noncomputable def law37_RegionLooks.C (n : Nat) : Ctx := { tab := tab, fts := fts, pts := pts, Γ := lookO [(19, law37_light.e n), (20, law37_awake.e n), (21, region_Look.e n), (22, ref37_Look.e n)], Γc := lookO [], Γs := lookO [], Γm := lookO [], ntmps := f5.ntmps, keep := Vi.look ([], []) [], pins := [] }
theorem law37_RegionLooks.ok (n : Nat) : CtxOk prog (law37_RegionLooks.C n) := ⟨types, ftsOk_, ptsOk_, (fns_cons (law37_light.sound n) (fns_cons (law37_awake.sound n) (fns_cons (region_Look.sound n) (fns_cons (ref37_Look.sound n) fns_nil)))), cls_nil, sqs_nil, ems_nil, mixed⟩
theorem law37_RegionLooks.eq (n : Nat) (x : pdens law37_RegionLooks.ps) : Vi.run (law37_RegionLooks.C n) n f5 law37_RegionLooks.ps law37_RegionLooks.rs x = law37_RegionLooks n x.1 x.2.1 x.2.2.1 x.2.2.2.1 x.2.2.2.2.1 x.2.2.2.2.2 := by kernel_rfl
theorem law37_RegionLooks.sound (n : Nat) : SoundE prog 5 (law37_RegionLooks.e n) :=
  soundE_of_run (C := law37_RegionLooks.C n) (n := n) (law37_RegionLooks.ok n) func5 (by kernel_rfl) (by kernel_rfl) (fun x r h => (law37_RegionLooks.eq n x).trans h)
def law37_RegionLooks.g (n : Nat) (x : pdens (law37_RegionLooks.τs.map PTy.data)) : Option Bool := law37_RegionLooks n x.1 x.2.1 x.2.2.1 x.2.2.2.1 x.2.2.2.2.1 x.2.2.2.2.2
theorem law37_RegionLooks.soundN (n : Nat) : SoundE prog 5 ⟨law37_RegionLooks.τs.map PTy.data, [.data .bool], law37_RegionLooks.g n⟩ := law37_RegionLooks.sound n

def law37_cubes.rs : List RTy := [.fresh TCube]
def law37_cubes.ps : List PTy := [.data TFlat, .data TFlat, .data (.int .i64), .data (.int .i64)]
noncomputable def law37_cubes.e (n : Nat) : Ent := ⟨law37_cubes.ps, law37_cubes.rs, fun x => law37_cubes n x.1 x.2.1 x.2.2.1 x.2.2.2⟩
noncomputable def law37_cubes.C (n : Nat) : Ctx := { tab := tab, fts := fts, pts := pts, Γ := lookO [(43, ref34_Cubes.e n)], Γc := lookO [], Γs := lookO [], Γm := lookO [], ntmps := f27.ntmps, keep := Vi.look ([], []) [], pins := [] }
theorem law37_cubes.ok (n : Nat) : CtxOk prog (law37_cubes.C n) := ⟨types, ftsOk_, ptsOk_, (fns_cons (ref34_Cubes.sound n) fns_nil), cls_nil, sqs_nil, ems_nil, mixed⟩
theorem law37_cubes.eq (n : Nat) (x : pdens law37_cubes.ps) : Vi.run (law37_cubes.C n) n f27 law37_cubes.ps law37_cubes.rs x = law37_cubes n x.1 x.2.1 x.2.2.1 x.2.2.2 := by kernel_rfl
theorem law37_cubes.sound (n : Nat) : SoundE prog 27 (law37_cubes.e n) :=
  soundE_of_run (C := law37_cubes.C n) (n := n) (law37_cubes.ok n) func27 (by kernel_rfl) (by kernel_rfl) (fun x r h => (law37_cubes.eq n x).trans h)

def law37_RegionEnough.rs : List RTy := [.data .bool]
def law37_RegionEnough.ps : List PTy := [.data TFlat, .data TFlat, .data (.int .i64), .data (.int .i64), .data TCube, .data (.int .u16)]
noncomputable def law37_RegionEnough.e (n : Nat) : Ent := ⟨law37_RegionEnough.ps, law37_RegionEnough.rs, fun x => law37_RegionEnough n x.1 x.2.1 x.2.2.1 x.2.2.2.1 x.2.2.2.2.1 x.2.2.2.2.2⟩
noncomputable def law37_RegionEnough.C (n : Nat) : Ctx := { tab := tab, fts := fts, pts := pts, Γ := lookO [(20, law37_awake.e n), (21, region_Look.e n), (23, region_Bound.e n), (24, law37_few.e n), (25, region_Meet.e n), (26, ref08_Bound.e n), (27, law37_cubes.e n)], Γc := lookO [], Γs := lookO [], Γm := lookO [], ntmps := f6.ntmps, keep := Vi.look ([], []) [], pins := [] }
theorem law37_RegionEnough.ok (n : Nat) : CtxOk prog (law37_RegionEnough.C n) := ⟨types, ftsOk_, ptsOk_, (fns_cons (law37_awake.sound n) (fns_cons (region_Look.sound n) (fns_cons (region_Bound.sound n) (fns_cons (law37_few.sound n) (fns_cons (region_Meet.sound n) (fns_cons (ref08_Bound.sound n) (fns_cons (law37_cubes.sound n) fns_nil))))))), cls_nil, sqs_nil, ems_nil, mixed⟩
theorem law37_RegionEnough.eq (n : Nat) (x : pdens law37_RegionEnough.ps) : Vi.run (law37_RegionEnough.C n) n f6 law37_RegionEnough.ps law37_RegionEnough.rs x = law37_RegionEnough n x.1 x.2.1 x.2.2.1 x.2.2.2.1 x.2.2.2.2.1 x.2.2.2.2.2 := by kernel_rfl
theorem law37_RegionEnough.sound (n : Nat) : SoundE prog 6 (law37_RegionEnough.e n) :=
  soundE_of_run (C := law37_RegionEnough.C n) (n := n) (law37_RegionEnough.ok n) func6 (by kernel_rfl) (by kernel_rfl) (fun x r h => (law37_RegionEnough.eq n x).trans h)
def law37_RegionEnough.g (n : Nat) (x : pdens (law37_RegionEnough.τs.map PTy.data)) : Option Bool := law37_RegionEnough n x.1 x.2.1 x.2.2.1 x.2.2.2.1 x.2.2.2.2.1 x.2.2.2.2.2
theorem law37_RegionEnough.soundN (n : Nat) : SoundE prog 6 ⟨law37_RegionEnough.τs.map PTy.data, [.data .bool], law37_RegionEnough.g n⟩ := law37_RegionEnough.sound n

def ref05_Has.rs : List RTy := [.data .bool]
def ref05_Has.ps : List PTy := [.data TTern, .data TWide]
noncomputable def ref05_Has.e (n : Nat) : Ent := ⟨ref05_Has.ps, ref05_Has.rs, fun x => some (ref05_Has x.1 x.2)⟩
noncomputable def ref05_Has.C (n : Nat) : Ctx := { tab := tab, fts := fts, pts := pts, Γ := lookO [(90, ref02_And.e n), (91, ref02_Zero.e n), (92, ref02_Xor.e n)], Γc := lookO [], Γs := lookO [], Γm := lookO [], ntmps := f76.ntmps, keep := Vi.look ([], []) [], pins := [] }
theorem ref05_Has.ok (n : Nat) : CtxOk prog (ref05_Has.C n) := ⟨types, ftsOk_, ptsOk_, (fns_cons (ref02_And.sound n) (fns_cons (ref02_Zero.sound n) (fns_cons (ref02_Xor.sound n) fns_nil))), cls_nil, sqs_nil, ems_nil, mixed⟩
theorem ref05_Has.eq (n : Nat) (x : pdens ref05_Has.ps) : Vi.run (ref05_Has.C n) n f76 ref05_Has.ps ref05_Has.rs x = some (ref05_Has x.1 x.2) := by kernel_rfl
theorem ref05_Has.sound (n : Nat) : SoundE prog 76 (ref05_Has.e n) :=
  soundE_of_run (C := ref05_Has.C n) (n := n) (ref05_Has.ok n) func76 (by kernel_rfl) (by kernel_rfl) (fun x r h => (ref05_Has.eq n x).trans h)

def ref06_Has.rs : List RTy := [.data .bool]
def ref06_Has.ps : List PTy := [.data TCube, .data THeader]
noncomputable def ref06_Has.e (n : Nat) : Ent := ⟨ref06_Has.ps, ref06_Has.rs, fun x => ref06_Has n x.1 x.2⟩
noncomputable def ref06_Has.C (n : Nat) : Ctx := { tab := tab, fts := fts, pts := pts, Γ := lookO [(76, ref05_Has.e n)], Γc := lookO [], Γs := lookO [], Γm := lookO [], ntmps := f61.ntmps, keep := Vi.look ([], []) [(2, ([2, 3, 5], [2, 3]))], pins := [] }
theorem ref06_Has.ok (n : Nat) : CtxOk prog (ref06_Has.C n) := ⟨types, ftsOk_, ptsOk_, (fns_cons (ref05_Has.sound n) fns_nil), cls_nil, sqs_nil, ems_nil, mixed⟩
noncomputable def ref06_Has.code : Code := bodyOf f61
theorem ref06_Has.l0.step (n : Nat) (m0 : Nat) (f : Int) (c_1 : Cube) (h_1 : Header) : it (EmR.no _) (ref06_Has.C n) n (Code.go ref06_Has.code [1, 0, 1, 0, 0]) (blockK 0 (seqK (EmR.no _) (ref06_Has.C n) n (Code.go ref06_Has.code [1, 1]) (bodyK (ref06_Has.C n) f61 ref06_Has.rs))) (m0 + 1) ⟨[(2, .ptr 2 0 TCube []), (3, .ptr 3 0 THeader []), (5, .dat (.int .i64) f)], [(2, .box 0 false (.dat TCube c_1)), (3, .box 0 false (.dat THeader h_1))]⟩ = ref06_Has.s0 n (fun (f' : Int) => it (EmR.no _) (ref06_Has.C n) n (Code.go ref06_Has.code [1, 0, 1, 0, 0]) (blockK 0 (seqK (EmR.no _) (ref06_Has.C n) n (Code.go ref06_Has.code [1, 1]) (bodyK (ref06_Has.C n) f61 ref06_Has.rs))) m0 ⟨[(2, .ptr 2 0 TCube []), (3, .ptr 3 0 THeader []), (5, .dat (.int .i64) (f'))], [(2, .box 0 false (.dat TCube c_1)), (3, .box 0 false (.dat THeader h_1))]⟩) f c_1 h_1 := by kernel_rfl
theorem ref06_Has.l0.eq (n : Nat) (c_1 : Cube) (h_1 : Header) : ∀ (m0 : Nat) (f : Int), it (EmR.no _) (ref06_Has.C n) n (Code.go ref06_Has.code [1, 0, 1, 0, 0]) (blockK 0 (seqK (EmR.no _) (ref06_Has.C n) n (Code.go ref06_Has.code [1, 1]) (bodyK (ref06_Has.C n) f61 ref06_Has.rs))) m0 ⟨[(2, .ptr 2 0 TCube []), (3, .ptr 3 0 THeader []), (5, .dat (.int .i64) f)], [(2, .box 0 false (.dat TCube c_1)), (3, .box 0 false (.dat THeader h_1))]⟩ = ref06_Has.l0 n c_1 h_1 m0 f
  | 0, _ => rfl
  | m0 + 1, f =>
    (ref06_Has.l0.step n m0 f c_1 h_1).trans (congr1 (fun k0 => ref06_Has.s0 n k0 f c_1 h_1) (funext fun f' => ref06_Has.l0.eq n c_1 h_1 m0 f'))
theorem ref06_Has.run0 (n : Nat) (x : pdens ref06_Has.ps) : Vi.run (ref06_Has.C n) n f61 ref06_Has.ps ref06_Has.rs x = ref06_Has.s n (fun (f' : Int) (c_1' : Cube) (h_1' : Header) => it (EmR.no _) (ref06_Has.C n) n (Code.go ref06_Has.code [1, 0, 1, 0, 0]) (blockK 0 (seqK (EmR.no _) (ref06_Has.C n) n (Code.go ref06_Has.code [1, 1]) (bodyK (ref06_Has.C n) f61 ref06_Has.rs))) n ⟨[(2, .ptr 2 0 TCube []), (3, .ptr 3 0 THeader []), (5, .dat (.int .i64) (f'))], [(2, .box 0 false (.dat TCube (c_1'))), (3, .box 0 false (.dat THeader (h_1')))]⟩) x.1 x.2 := by kernel_rfl
theorem ref06_Has.eq (n : Nat) (x : pdens ref06_Has.ps) : Vi.run (ref06_Has.C n) n f61 ref06_Has.ps ref06_Has.rs x = ref06_Has n x.1 x.2 :=
  (ref06_Has.run0 n x).trans (congr1 (fun k0 => ref06_Has.s n k0 x.1 x.2) (funext fun f' => funext fun c_1' => funext fun h_1' => ref06_Has.l0.eq n c_1' h_1' n f'))
theorem ref06_Has.sound (n : Nat) : SoundE prog 61 (ref06_Has.e n) :=
  soundE_of_run (C := ref06_Has.C n) (n := n) (ref06_Has.ok n) func61 (by kernel_rfl) (by kernel_rfl) (fun x r h => (ref06_Has.eq n x).trans h)

def ref36_Find.rs : List RTy := [.data (.int .i64), .data .bool]
def ref36_Find.ps : List PTy := [.data TFlat, .data THeader]
noncomputable def ref36_Find.e (n : Nat) : Ent := ⟨ref36_Find.ps, ref36_Find.rs, fun x => ref36_Find n x.1 x.2⟩
noncomputable def ref36_Find.C (n : Nat) : Ctx := { tab := tab, fts := fts, pts := pts, Γ := lookO [(61, ref06_Has.e n)], Γc := lookO [], Γs := lookO [], Γm := lookO [], ntmps := f29.ntmps, keep := Vi.look ([], []) [(2, ([2, 3, 6], [2, 3]))], pins := [] }
theorem ref36_Find.ok (n : Nat) : CtxOk prog (ref36_Find.C n) := ⟨types, ftsOk_, ptsOk_, (fns_cons (ref06_Has.sound n) fns_nil), cls_nil, sqs_nil, ems_nil, mixed⟩
noncomputable def ref36_Find.code : Code := bodyOf f29
theorem ref36_Find.l0.step (n : Nat) (m0 : Nat) (i : Int) (f_1 : Flat) (h_1 : Header) : it (EmR.no _) (ref36_Find.C n) n (Code.go ref36_Find.code [1, 0, 1, 0, 0]) (blockK 0 (seqK (EmR.no _) (ref36_Find.C n) n (Code.go ref36_Find.code [1, 1]) (bodyK (ref36_Find.C n) f29 ref36_Find.rs))) (m0 + 1) ⟨[(2, .ptr 2 0 TFlat []), (3, .ptr 3 0 THeader []), (6, .dat (.int .i64) i)], [(2, .box 0 false (.dat TFlat f_1)), (3, .box 0 false (.dat THeader h_1))]⟩ = ref36_Find.s0 n (fun (i' : Int) => it (EmR.no _) (ref36_Find.C n) n (Code.go ref36_Find.code [1, 0, 1, 0, 0]) (blockK 0 (seqK (EmR.no _) (ref36_Find.C n) n (Code.go ref36_Find.code [1, 1]) (bodyK (ref36_Find.C n) f29 ref36_Find.rs))) m0 ⟨[(2, .ptr 2 0 TFlat []), (3, .ptr 3 0 THeader []), (6, .dat (.int .i64) (i'))], [(2, .box 0 false (.dat TFlat f_1)), (3, .box 0 false (.dat THeader h_1))]⟩) i f_1 h_1 := by kernel_rfl
theorem ref36_Find.l0.eq (n : Nat) (f_1 : Flat) (h_1 : Header) : ∀ (m0 : Nat) (i : Int), it (EmR.no _) (ref36_Find.C n) n (Code.go ref36_Find.code [1, 0, 1, 0, 0]) (blockK 0 (seqK (EmR.no _) (ref36_Find.C n) n (Code.go ref36_Find.code [1, 1]) (bodyK (ref36_Find.C n) f29 ref36_Find.rs))) m0 ⟨[(2, .ptr 2 0 TFlat []), (3, .ptr 3 0 THeader []), (6, .dat (.int .i64) i)], [(2, .box 0 false (.dat TFlat f_1)), (3, .box 0 false (.dat THeader h_1))]⟩ = ref36_Find.l0 n f_1 h_1 m0 i
  | 0, _ => rfl
  | m0 + 1, i =>
    (ref36_Find.l0.step n m0 i f_1 h_1).trans (congr1 (fun k0 => ref36_Find.s0 n k0 i f_1 h_1) (funext fun i' => ref36_Find.l0.eq n f_1 h_1 m0 i'))
theorem ref36_Find.run0 (n : Nat) (x : pdens ref36_Find.ps) : Vi.run (ref36_Find.C n) n f29 ref36_Find.ps ref36_Find.rs x = ref36_Find.s n (fun (i' : Int) (f_1' : Flat) (h_1' : Header) => it (EmR.no _) (ref36_Find.C n) n (Code.go ref36_Find.code [1, 0, 1, 0, 0]) (blockK 0 (seqK (EmR.no _) (ref36_Find.C n) n (Code.go ref36_Find.code [1, 1]) (bodyK (ref36_Find.C n) f29 ref36_Find.rs))) n ⟨[(2, .ptr 2 0 TFlat []), (3, .ptr 3 0 THeader []), (6, .dat (.int .i64) (i'))], [(2, .box 0 false (.dat TFlat (f_1'))), (3, .box 0 false (.dat THeader (h_1')))]⟩) x.1 x.2 := by kernel_rfl
theorem ref36_Find.eq (n : Nat) (x : pdens ref36_Find.ps) : Vi.run (ref36_Find.C n) n f29 ref36_Find.ps ref36_Find.rs x = ref36_Find n x.1 x.2 :=
  (ref36_Find.run0 n x).trans (congr1 (fun k0 => ref36_Find.s n k0 x.1 x.2) (funext fun i' => funext fun f_1' => funext fun h_1' => ref36_Find.l0.eq n f_1' h_1' n i'))
theorem ref36_Find.sound (n : Nat) : SoundE prog 29 (ref36_Find.e n) :=
  soundE_of_run (C := ref36_Find.C n) (n := n) (ref36_Find.ok n) func29 (by kernel_rfl) (by kernel_rfl) (fun x r h => (ref36_Find.eq n x).trans h)

def law37_RegionHits.rs : List RTy := [.data .bool]
def law37_RegionHits.ps : List PTy := [.data TFlat, .data TFlat, .data (.int .i64), .data (.int .i64), .data TCube, .data (.int .i64), .data THeader]
noncomputable def law37_RegionHits.e (n : Nat) : Ent := ⟨law37_RegionHits.ps, law37_RegionHits.rs, fun x => law37_RegionHits n x.1 x.2.1 x.2.2.1 x.2.2.2.1 x.2.2.2.2.1 x.2.2.2.2.2.1 x.2.2.2.2.2.2⟩
noncomputable def law37_RegionHits.C (n : Nat) : Ctx := { tab := tab, fts := fts, pts := pts, Γ := lookO [(19, law37_light.e n), (20, law37_awake.e n), (21, region_Look.e n), (29, ref36_Find.e n), (30, cube_Has.e n)], Γc := lookO [], Γs := lookO [], Γm := lookO [], ntmps := f8.ntmps, keep := Vi.look ([], []) [], pins := [] }
theorem law37_RegionHits.ok (n : Nat) : CtxOk prog (law37_RegionHits.C n) := ⟨types, ftsOk_, ptsOk_, (fns_cons (law37_light.sound n) (fns_cons (law37_awake.sound n) (fns_cons (region_Look.sound n) (fns_cons (ref36_Find.sound n) (fns_cons (cube_Has.sound n) fns_nil))))), cls_nil, sqs_nil, ems_nil, mixed⟩
theorem law37_RegionHits.eq (n : Nat) (x : pdens law37_RegionHits.ps) : Vi.run (law37_RegionHits.C n) n f8 law37_RegionHits.ps law37_RegionHits.rs x = law37_RegionHits n x.1 x.2.1 x.2.2.1 x.2.2.2.1 x.2.2.2.2.1 x.2.2.2.2.2.1 x.2.2.2.2.2.2 := by kernel_rfl
theorem law37_RegionHits.sound (n : Nat) : SoundE prog 8 (law37_RegionHits.e n) :=
  soundE_of_run (C := law37_RegionHits.C n) (n := n) (law37_RegionHits.ok n) func8 (by kernel_rfl) (by kernel_rfl) (fun x r h => (law37_RegionHits.eq n x).trans h)
def law37_RegionHits.g (n : Nat) (x : pdens (law37_RegionHits.τs.map PTy.data)) : Option Bool := law37_RegionHits n x.1 x.2.1 x.2.2.1 x.2.2.2.1 x.2.2.2.2.1 x.2.2.2.2.2.1 x.2.2.2.2.2.2
theorem law37_RegionHits.soundN (n : Nat) : SoundE prog 8 ⟨law37_RegionHits.τs.map PTy.data, [.data .bool], law37_RegionHits.g n⟩ := law37_RegionHits.sound n

def slices_Equal_2_int.rs : List RTy := [.data .bool]
def slices_Equal_2_int.ps : List PTy := [.data (.slc (.arr 2 (.int .i64))), .data (.slc (.arr 2 (.int .i64)))]
noncomputable def slices_Equal_2_int.e (n : Nat) : Ent := ⟨slices_Equal_2_int.ps, slices_Equal_2_int.rs, fun x => slices_Equal_2_int n x.1 x.2⟩
noncomputable def slices_Equal_2_int.C (n : Nat) : Ctx := { tab := tab, fts := fts, pts := pts, Γ := lookO [], Γc := lookO [], Γs := lookO [], Γm := lookO [], ntmps := f33.ntmps, keep := Vi.look ([], []) [(4, ([0, 1, 12, 13], []))], pins := [] }
theorem slices_Equal_2_int.ok (n : Nat) : CtxOk prog (slices_Equal_2_int.C n) := ⟨types, ftsOk_, ptsOk_, fns_nil, cls_nil, sqs_nil, ems_nil, mixed⟩
noncomputable def slices_Equal_2_int.code : Code := bodyOf f33
theorem slices_Equal_2_int.l0.step (n : Nat) (m0 : Nat) (s1_1 : (List (List Int))) (s2_1 : (List (List Int))) (v12 : Int) (v13 : Int) : it (EmR.no _) (slices_Equal_2_int.C n) n (Code.go slices_Equal_2_int.code [1, 1, 0, 1, 0, 0]) (blockK 0 (seqK (EmR.no _) (slices_Equal_2_int.C n) n (Code.go slices_Equal_2_int.code [1, 1, 1]) (bodyK (slices_Equal_2_int.C n) f33 slices_Equal_2_int.rs))) (m0 + 1) ⟨[(0, .dat (.slc (.arr 2 (.int .i64))) s1_1), (1, .dat (.slc (.arr 2 (.int .i64))) s2_1), (12, .dat (.int .i64) v12), (13, .dat (.int .i64) v13)], []⟩ = slices_Equal_2_int.s0 n (fun (v13' : Int) => it (EmR.no _) (slices_Equal_2_int.C n) n (Code.go slices_Equal_2_int.code [1, 1, 0, 1, 0, 0]) (blockK 0 (seqK (EmR.no _) (slices_Equal_2_int.C n) n (Code.go slices_Equal_2_int.code [1, 1, 1]) (bodyK (slices_Equal_2_int.C n) f33 slices_Equal_2_int.rs))) m0 ⟨[(0, .dat (.slc (.arr 2 (.int .i64))) s1_1), (1, .dat (.slc (.arr 2 (.int .i64))) s2_1), (12, .dat (.int .i64) v12), (13, .dat (.int .i64) (v13'))], []⟩) s1_1 s2_1 v12 v13 := by kernel_rfl
theorem slices_Equal_2_int.l0.eq (n : Nat) (s1_1 : (List (List Int))) (s2_1 : (List (List Int))) (v12 : Int) : ∀ (m0 : Nat) (v13 : Int), it (EmR.no _) (slices_Equal_2_int.C n) n (Code.go slices_Equal_2_int.code [1, 1, 0, 1, 0, 0]) (blockK 0 (seqK (EmR.no _) (slices_Equal_2_int.C n) n (Code.go slices_Equal_2_int.code [1, 1, 1]) (bodyK (slices_Equal_2_int.C n) f33 slices_Equal_2_int.rs))) m0 ⟨[(0, .dat (.slc (.arr 2 (.int .i64))) s1_1), (1, .dat (.slc (.arr 2 (.int .i64))) s2_1), (12, .dat (.int .i64) v12), (13, .dat (.int .i64) v13)], []⟩ = slices_Equal_2_int.l0 n s1_1 s2_1 v12 m0 v13
  | 0, _ => rfl
  | m0 + 1, v13 =>
    (slices_Equal_2_int.l0.step n m0 s1_1 s2_1 v12 v13).trans (congr1 (fun k0 => slices_Equal_2_int.s0 n k0 s1_1 s2_1 v12 v13) (funext fun v13' => slices_Equal_2_int.l0.eq n s1_1 s2_1 v12 m0 v13'))
theorem slices_Equal_2_int.run0 (n : Nat) (x : pdens slices_Equal_2_int.ps) : Vi.run (slices_Equal_2_int.C n) n f33 slices_Equal_2_int.ps slices_Equal_2_int.rs x = slices_Equal_2_int.s n (fun (s1_1' : (List (List Int))) (s2_1' : (List (List Int))) (v12' : Int) (v13' : Int) => it (EmR.no _) (slices_Equal_2_int.C n) n (Code.go slices_Equal_2_int.code [1, 1, 0, 1, 0, 0]) (blockK 0 (seqK (EmR.no _) (slices_Equal_2_int.C n) n (Code.go slices_Equal_2_int.code [1, 1, 1]) (bodyK (slices_Equal_2_int.C n) f33 slices_Equal_2_int.rs))) n ⟨[(0, .dat (.slc (.arr 2 (.int .i64))) (s1_1')), (1, .dat (.slc (.arr 2 (.int .i64))) (s2_1')), (12, .dat (.int .i64) (v12')), (13, .dat (.int .i64) (v13'))], []⟩) x.1 x.2 := by kernel_rfl
theorem slices_Equal_2_int.eq (n : Nat) (x : pdens slices_Equal_2_int.ps) : Vi.run (slices_Equal_2_int.C n) n f33 slices_Equal_2_int.ps slices_Equal_2_int.rs x = slices_Equal_2_int n x.1 x.2 :=
  (slices_Equal_2_int.run0 n x).trans (congr1 (fun k0 => slices_Equal_2_int.s n k0 x.1 x.2) (funext fun s1_1' => funext fun s2_1' => funext fun v12' => funext fun v13' => slices_Equal_2_int.l0.eq n s1_1' s2_1' v12' n v13'))
theorem slices_Equal_2_int.sound (n : Nat) : SoundE prog 33 (slices_Equal_2_int.e n) :=
  soundE_of_run (C := slices_Equal_2_int.C n) (n := n) (slices_Equal_2_int.ok n) func33 (by kernel_rfl) (by kernel_rfl) (fun x r h => (slices_Equal_2_int.eq n x).trans h)

def law37_RegionPairs.rs : List RTy := [.data .bool]
def law37_RegionPairs.ps : List PTy := [.data TFlat, .data TFlat, .data (.int .i64), .data (.int .i64)]
noncomputable def law37_RegionPairs.e (n : Nat) : Ent := ⟨law37_RegionPairs.ps, law37_RegionPairs.rs, fun x => law37_RegionPairs n x.1 x.2.1 x.2.2.1 x.2.2.2⟩
noncomputable def law37_RegionPairs.C (n : Nat) : Ctx := { tab := tab, fts := fts, pts := pts, Γ := lookO [(20, law37_awake.e n), (23, region_Bound.e n), (24, law37_few.e n), (25, region_Meet.e n), (31, region_Pairs.e n), (32, ref37_Meet.e n), (33, slices_Equal_2_int.e n), (34, law37_all.e n), (35, ref37_Pairs.e n), (36, ref37_Bound.e n)], Γc := lookO [], Γs := lookO [], Γm := lookO [], ntmps := f9.ntmps, keep := Vi.look ([], []) [], pins := [] }
theorem law37_RegionPairs.ok (n : Nat) : CtxOk prog (law37_RegionPairs.C n) := ⟨types, ftsOk_, ptsOk_, (fns_cons (law37_awake.sound n) (fns_cons (region_Bound.sound n) (fns_cons (law37_few.sound n) (fns_cons (region_Meet.sound n) (fns_cons (region_Pairs.sound n) (fns_cons (ref37_Meet.sound n) (fns_cons (slices_Equal_2_int.sound n) (fns_cons (law37_all.sound n) (fns_cons (ref37_Pairs.sound n) (fns_cons (ref37_Bound.sound n) fns_nil)))))))))), cls_nil, sqs_nil, ems_nil, mixed⟩
theorem law37_RegionPairs.eq (n : Nat) (x : pdens law37_RegionPairs.ps) : Vi.run (law37_RegionPairs.C n) n f9 law37_RegionPairs.ps law37_RegionPairs.rs x = law37_RegionPairs n x.1 x.2.1 x.2.2.1 x.2.2.2 := by kernel_rfl
theorem law37_RegionPairs.sound (n : Nat) : SoundE prog 9 (law37_RegionPairs.e n) :=
  soundE_of_run (C := law37_RegionPairs.C n) (n := n) (law37_RegionPairs.ok n) func9 (by kernel_rfl) (by kernel_rfl) (fun x r h => (law37_RegionPairs.eq n x).trans h)
def law37_RegionPairs.g (n : Nat) (x : pdens (law37_RegionPairs.τs.map PTy.data)) : Option Bool := law37_RegionPairs n x.1 x.2.1 x.2.2.1 x.2.2.2
theorem law37_RegionPairs.soundN (n : Nat) : SoundE prog 9 ⟨law37_RegionPairs.τs.map PTy.data, [.data .bool], law37_RegionPairs.g n⟩ := law37_RegionPairs.sound n

end Go.Fn
