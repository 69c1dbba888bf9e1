/- That the functions compute what their native texts say: written by the session's program gen.py out of the translation. -/
import Derived.Test.YtdafodpjmklfpaaViZ
import Derived.Test.YtdafodpjmklfpaaViJoin
import Derived.Test.YtdafodpjmklfpaaN
import Derived.Test.YtdafodpjmklfpaaProg
set_option linter.unusedVariables false
set_option maxRecDepth 100000
namespace Go.Fn
open Go Go.Vi Go.Proofs.Try

def tab : List (Nat × TE) := [(3, ⟨(.int .i64), 0, 0⟩), (4, ⟨.bool, 0, 0⟩), (5, ⟨(.int .u8), 0, 0⟩), (9, ⟨.str, 0, 0⟩), (22, ⟨(.int .u64), 0, 0⟩), (24, ⟨TWide, 2, 0⟩), (33, ⟨TFault, 3, 0⟩), (34, ⟨(.slc (.int .u8)), 0, 1⟩), (49, ⟨(.int .i64), 0, 0⟩), (56, ⟨(.slc (.slc (.int .u8))), 0, 24⟩), (61, ⟨(.int .u16), 0, 0⟩), (64, ⟨(.int .u32), 0, 0⟩), (67, ⟨(.arr 2 (.int .u64)), 0, 0⟩), (68, ⟨(.int .u64), 0, 0⟩), (76, ⟨(.arr 7 .str), 0, 0⟩), (77, ⟨(.arr 16 (.int .u8)), 0, 0⟩), (88, ⟨(.arr 4 (.int .u8)), 0, 0⟩)]
def fts : List Nat := [42, 54]
def pts : List Nat := []
theorem tabOk_ : tabOk prog tab = true := by kernel_rfl
theorem types : Types prog tab := Types.of tabOk_
theorem ftsOk_ : ftsOk prog fts = true := by kernel_rfl
theorem ptsOk_ : ptsOk prog pts = true := by kernel_rfl
theorem mixed : prog.follows .mixedOrders = true := by kernel_rfl

def wide_Bit.rs : List RTy := [.data TWide]
def wide_Bit.ps : List PTy := [.data (.int .i64)]
noncomputable def wide_Bit.e (n : Nat) : Ent := ⟨wide_Bit.ps, wide_Bit.rs, fun x => wide_Bit x⟩
noncomputable def wide_Bit.C (n : Nat) : Ctx := { tab := tab, fts := fts, pts := pts, Γ := lookO [], Γc := lookO [], Γs := lookO [], Γm := lookO [], Γo := lookO [], ntmps := f15.ntmps, keep := Vi.look ([], []) [], pins := [] }
theorem wide_Bit.ok (n : Nat) : CtxOk prog (wide_Bit.C n) := ⟨types, ftsOk_, ptsOk_, fns_nil, cls_nil, sqs_nil, ems_nil, mixed, ons_nil⟩
theorem wide_Bit.eq (n : Nat) (x : pdens wide_Bit.ps) : Vi.run (wide_Bit.C n) n f15 wide_Bit.ps wide_Bit.rs x = wide_Bit x := by kernel_rfl
theorem wide_Bit.sound (n : Nat) : SoundE prog 15 (wide_Bit.e n) :=
  soundE_of_run (C := wide_Bit.C n) (n := n) (wide_Bit.ok n) func15 (by kernel_rfl) (by kernel_rfl) (fun x r h => (wide_Bit.eq n x).trans h)

def ref02_Bit.rs : List RTy := [.data TWide]
def ref02_Bit.ps : List PTy := [.data (.int .i64)]
noncomputable def ref02_Bit.e (n : Nat) : Ent := ⟨ref02_Bit.ps, ref02_Bit.rs, fun x => ref02_Bit x⟩
noncomputable def ref02_Bit.C (n : Nat) : Ctx := { tab := tab, fts := fts, pts := pts, Γ := lookO [], Γc := lookO [], Γs := lookO [], Γm := lookO [], Γo := lookO [], ntmps := f16.ntmps, keep := Vi.look ([], []) [], pins := [] }
theorem ref02_Bit.ok (n : Nat) : CtxOk prog (ref02_Bit.C n) := ⟨types, ftsOk_, ptsOk_, fns_nil, cls_nil, sqs_nil, ems_nil, mixed, ons_nil⟩
theorem ref02_Bit.eq (n : Nat) (x : pdens ref02_Bit.ps) : Vi.run (ref02_Bit.C n) n f16 ref02_Bit.ps ref02_Bit.rs x = ref02_Bit x := by kernel_rfl
theorem ref02_Bit.sound (n : Nat) : SoundE prog 16 (ref02_Bit.e n) :=
  soundE_of_run (C := ref02_Bit.C n) (n := n) (ref02_Bit.ok n) func16 (by kernel_rfl) (by kernel_rfl) (fun x r h => (ref02_Bit.eq n x).trans h)

def wide_And.rs : List RTy := [.data TWide]
def wide_And.ps : List PTy := [.data TWide, .data TWide]
noncomputable def wide_And.e (n : Nat) : Ent := ⟨wide_And.ps, wide_And.rs, fun x => some (wide_And x.1 x.2)⟩
noncomputable def wide_And.C (n : Nat) : Ctx := { tab := tab, fts := fts, pts := pts, Γ := lookO [], Γc := lookO [], Γs := lookO [], Γm := lookO [], Γo := lookO [], ntmps := f22.ntmps, keep := Vi.look ([], []) [], pins := [] }
theorem wide_And.ok (n : Nat) : CtxOk prog (wide_And.C n) := ⟨types, ftsOk_, ptsOk_, fns_nil, cls_nil, sqs_nil, ems_nil, mixed, ons_nil⟩
theorem wide_And.eq (n : Nat) (x : pdens wide_And.ps) : Vi.run (wide_And.C n) n f22 wide_And.ps wide_And.rs x = some (wide_And x.1 x.2) := by kernel_rfl
theorem wide_And.sound (n : Nat) : SoundE prog 22 (wide_And.e n) :=
  soundE_of_run (C := wide_And.C n) (n := n) (wide_And.ok n) func22 (by kernel_rfl) (by kernel_rfl) (fun x r h => (wide_And.eq n x).trans h)

def wide_Zero.rs : List RTy := [.data .bool]
def wide_Zero.ps : List PTy := [.data TWide]
noncomputable def wide_Zero.e (n : Nat) : Ent := ⟨wide_Zero.ps, wide_Zero.rs, fun x => some (wide_Zero x)⟩
noncomputable def wide_Zero.C (n : Nat) : Ctx := { tab := tab, fts := fts, pts := pts, Γ := lookO [], Γc := lookO [], Γs := lookO [], Γm := lookO [], Γo := lookO [], ntmps := f30.ntmps, keep := Vi.look ([], []) [], pins := [] }
theorem wide_Zero.ok (n : Nat) : CtxOk prog (wide_Zero.C n) := ⟨types, ftsOk_, ptsOk_, fns_nil, cls_nil, sqs_nil, ems_nil, mixed, ons_nil⟩
theorem wide_Zero.eq (n : Nat) (x : pdens wide_Zero.ps) : Vi.run (wide_Zero.C n) n f30 wide_Zero.ps wide_Zero.rs x = some (wide_Zero x) := by kernel_rfl
theorem wide_Zero.sound (n : Nat) : SoundE prog 30 (wide_Zero.e n) :=
  soundE_of_run (C := wide_Zero.C n) (n := n) (wide_Zero.ok n) func30 (by kernel_rfl) (by kernel_rfl) (fun x r h => (wide_Zero.eq n x).trans h)

def wide_Has.rs : List RTy := [.data .bool]
def wide_Has.ps : List PTy := [.data TWide, .data (.int .i64)]
noncomputable def wide_Has.e (n : Nat) : Ent := ⟨wide_Has.ps, wide_Has.rs, fun x => wide_Has x.1 x.2⟩
noncomputable def wide_Has.C (n : Nat) : Ctx := { tab := tab, fts := fts, pts := pts, Γ := lookO [(15, wide_Bit.e n), (22, wide_And.e n), (30, wide_Zero.e n)], Γc := lookO [], Γs := lookO [], Γm := lookO [], Γo := lookO [], ntmps := f17.ntmps, keep := Vi.look ([], []) [], pins := [] }
theorem wide_Has.ok (n : Nat) : CtxOk prog (wide_Has.C n) := ⟨types, ftsOk_, ptsOk_, (fns_cons (wide_Bit.sound n) (fns_cons (wide_And.sound n) (fns_cons (wide_Zero.sound n) fns_nil))), cls_nil, sqs_nil, ems_nil, mixed, ons_nil⟩
theorem wide_Has.eq (n : Nat) (x : pdens wide_Has.ps) : Vi.run (wide_Has.C n) n f17 wide_Has.ps wide_Has.rs x = wide_Has x.1 x.2 := by kernel_rfl
theorem wide_Has.sound (n : Nat) : SoundE prog 17 (wide_Has.e n) :=
  soundE_of_run (C := wide_Has.C n) (n := n) (wide_Has.ok n) func17 (by kernel_rfl) (by kernel_rfl) (fun x r h => (wide_Has.eq n x).trans h)

def ref02_And.rs : List RTy := [.data TWide]
def ref02_And.ps : List PTy := [.data TWide, .data TWide]
noncomputable def ref02_And.e (n : Nat) : Ent := ⟨ref02_And.ps, ref02_And.rs, fun x => some (ref02_And x.1 x.2)⟩
noncomputable def ref02_And.C (n : Nat) : Ctx := { tab := tab, fts := fts, pts := pts, Γ := lookO [], Γc := lookO [], Γs := lookO [], Γm := lookO [], Γo := lookO [], ntmps := f23.ntmps, keep := Vi.look ([], []) [], pins := [] }
theorem ref02_And.ok (n : Nat) : CtxOk prog (ref02_And.C n) := ⟨types, ftsOk_, ptsOk_, fns_nil, cls_nil, sqs_nil, ems_nil, mixed, ons_nil⟩
theorem ref02_And.eq (n : Nat) (x : pdens ref02_And.ps) : Vi.run (ref02_And.C n) n f23 ref02_And.ps ref02_And.rs x = some (ref02_And x.1 x.2) := by kernel_rfl
theorem ref02_And.sound (n : Nat) : SoundE prog 23 (ref02_And.e n) :=
  soundE_of_run (C := ref02_And.C n) (n := n) (ref02_And.ok n) func23 (by kernel_rfl) (by kernel_rfl) (fun x r h => (ref02_And.eq n x).trans h)

def ref02_Zero.rs : List RTy := [.data .bool]
def ref02_Zero.ps : List PTy := [.data TWide]
noncomputable def ref02_Zero.e (n : Nat) : Ent := ⟨ref02_Zero.ps, ref02_Zero.rs, fun x => some (ref02_Zero x)⟩
noncomputable def ref02_Zero.C (n : Nat) : Ctx := { tab := tab, fts := fts, pts := pts, Γ := lookO [], Γc := lookO [], Γs := lookO [], Γm := lookO [], Γo := lookO [], ntmps := f31.ntmps, keep := Vi.look ([], []) [], pins := [] }
theorem ref02_Zero.ok (n : Nat) : CtxOk prog (ref02_Zero.C n) := ⟨types, ftsOk_, ptsOk_, fns_nil, cls_nil, sqs_nil, ems_nil, mixed, ons_nil⟩
theorem ref02_Zero.run0 (n : Nat) (x : pdens ref02_Zero.ps) : Vi.run (ref02_Zero.C n) n f31 ref02_Zero.ps ref02_Zero.rs x = ref02_Zero.o x := by kernel_rfl
theorem ref02_Zero.eq (n : Nat) (x : pdens ref02_Zero.ps) : Vi.run (ref02_Zero.C n) n f31 ref02_Zero.ps ref02_Zero.rs x = some (ref02_Zero x) := (ref02_Zero.run0 n x).trans (ref02_Zero.o_eq _)
theorem ref02_Zero.sound (n : Nat) : SoundE prog 31 (ref02_Zero.e n) :=
  soundE_of_run (C := ref02_Zero.C n) (n := n) (ref02_Zero.ok n) func31 (by kernel_rfl) (by kernel_rfl) (fun x r h => (ref02_Zero.eq n x).trans h)

def ref02_Has.rs : List RTy := [.data .bool]
def ref02_Has.ps : List PTy := [.data TWide, .data (.int .i64)]
noncomputable def ref02_Has.e (n : Nat) : Ent := ⟨ref02_Has.ps, ref02_Has.rs, fun x => ref02_Has x.1 x.2⟩
noncomputable def ref02_Has.C (n : Nat) : Ctx := { tab := tab, fts := fts, pts := pts, Γ := lookO [(16, ref02_Bit.e n), (23, ref02_And.e n), (31, ref02_Zero.e n)], Γc := lookO [], Γs := lookO [], Γm := lookO [], Γo := lookO [], ntmps := f18.ntmps, keep := Vi.look ([], []) [], pins := [] }
theorem ref02_Has.ok (n : Nat) : CtxOk prog (ref02_Has.C n) := ⟨types, ftsOk_, ptsOk_, (fns_cons (ref02_Bit.sound n) (fns_cons (ref02_And.sound n) (fns_cons (ref02_Zero.sound n) fns_nil))), cls_nil, sqs_nil, ems_nil, mixed, ons_nil⟩
theorem ref02_Has.eq (n : Nat) (x : pdens ref02_Has.ps) : Vi.run (ref02_Has.C n) n f18 ref02_Has.ps ref02_Has.rs x = ref02_Has x.1 x.2 := by kernel_rfl
theorem ref02_Has.sound (n : Nat) : SoundE prog 18 (ref02_Has.e n) :=
  soundE_of_run (C := ref02_Has.C n) (n := n) (ref02_Has.ok n) func18 (by kernel_rfl) (by kernel_rfl) (fun x r h => (ref02_Has.eq n x).trans h)

def wide_low.rs : List RTy := [.data (.int .u64)]
def wide_low.ps : List PTy := [.data (.int .i64)]
noncomputable def wide_low.e (n : Nat) : Ent := ⟨wide_low.ps, wide_low.rs, fun x => wide_low x⟩
noncomputable def wide_low.C (n : Nat) : Ctx := { tab := tab, fts := fts, pts := pts, Γ := lookO [], Γc := lookO [], Γs := lookO [], Γm := lookO [], Γo := lookO [], ntmps := f63.ntmps, keep := Vi.look ([], []) [], pins := [] }
theorem wide_low.ok (n : Nat) : CtxOk prog (wide_low.C n) := ⟨types, ftsOk_, ptsOk_, fns_nil, cls_nil, sqs_nil, ems_nil, mixed, ons_nil⟩
theorem wide_low.eq (n : Nat) (x : pdens wide_low.ps) : Vi.run (wide_low.C n) n f63 wide_low.ps wide_low.rs x = wide_low x := by kernel_rfl
theorem wide_low.sound (n : Nat) : SoundE prog 63 (wide_low.e n) :=
  soundE_of_run (C := wide_low.C n) (n := n) (wide_low.ok n) func63 (by kernel_rfl) (by kernel_rfl) (fun x r h => (wide_low.eq n x).trans h)

def wide_Low.rs : List RTy := [.data TWide]
def wide_Low.ps : List PTy := [.data (.int .i64)]
noncomputable def wide_Low.e (n : Nat) : Ent := ⟨wide_Low.ps, wide_Low.rs, fun x => wide_Low x⟩
noncomputable def wide_Low.C (n : Nat) : Ctx := { tab := tab, fts := fts, pts := pts, Γ := lookO [(63, wide_low.e n)], Γc := lookO [], Γs := lookO [], Γm := lookO [], Γo := lookO [], ntmps := f19.ntmps, keep := Vi.look ([], []) [], pins := [] }
theorem wide_Low.ok (n : Nat) : CtxOk prog (wide_Low.C n) := ⟨types, ftsOk_, ptsOk_, (fns_cons (wide_low.sound n) fns_nil), cls_nil, sqs_nil, ems_nil, mixed, ons_nil⟩
theorem wide_Low.eq (n : Nat) (x : pdens wide_Low.ps) : Vi.run (wide_Low.C n) n f19 wide_Low.ps wide_Low.rs x = wide_Low x := by kernel_rfl
theorem wide_Low.sound (n : Nat) : SoundE prog 19 (wide_Low.e n) :=
  soundE_of_run (C := wide_Low.C n) (n := n) (wide_Low.ok n) func19 (by kernel_rfl) (by kernel_rfl) (fun x r h => (wide_Low.eq n x).trans h)

def ref02_Or.rs : List RTy := [.data TWide]
def ref02_Or.ps : List PTy := [.data TWide, .data TWide]
noncomputable def ref02_Or.e (n : Nat) : Ent := ⟨ref02_Or.ps, ref02_Or.rs, fun x => some (ref02_Or x.1 x.2)⟩
noncomputable def ref02_Or.C (n : Nat) : Ctx := { tab := tab, fts := fts, pts := pts, Γ := lookO [], Γc := lookO [], Γs := lookO [], Γm := lookO [], Γo := lookO [], ntmps := f25.ntmps, keep := Vi.look ([], []) [], pins := [] }
theorem ref02_Or.ok (n : Nat) : CtxOk prog (ref02_Or.C n) := ⟨types, ftsOk_, ptsOk_, fns_nil, cls_nil, sqs_nil, ems_nil, mixed, ons_nil⟩
theorem ref02_Or.eq (n : Nat) (x : pdens ref02_Or.ps) : Vi.run (ref02_Or.C n) n f25 ref02_Or.ps ref02_Or.rs x = some (ref02_Or x.1 x.2) := by kernel_rfl
theorem ref02_Or.sound (n : Nat) : SoundE prog 25 (ref02_Or.e n) :=
  soundE_of_run (C := ref02_Or.C n) (n := n) (ref02_Or.ok n) func25 (by kernel_rfl) (by kernel_rfl) (fun x r h => (ref02_Or.eq n x).trans h)

def ref02_Low.rs : List RTy := [.data TWide]
def ref02_Low.ps : List PTy := [.data (.int .i64)]
noncomputable def ref02_Low.e (n : Nat) : Ent := ⟨ref02_Low.ps, ref02_Low.rs, fun x => ref02_Low n x⟩
noncomputable def ref02_Low.C (n : Nat) : Ctx := { tab := tab, fts := fts, pts := pts, Γ := lookO [(16, ref02_Bit.e n), (25, ref02_Or.e n)], Γc := lookO [], Γs := lookO [], Γm := lookO [], Γo := lookO [], ntmps := f20.ntmps, keep := Vi.look ([], []) [(3, ([0, 2, 3, 4], [2, 3]))], pins := [] }
theorem ref02_Low.ok (n : Nat) : CtxOk prog (ref02_Low.C n) := ⟨types, ftsOk_, ptsOk_, (fns_cons (ref02_Bit.sound n) (fns_cons (ref02_Or.sound n) fns_nil)), cls_nil, sqs_nil, ems_nil, mixed, ons_nil⟩
noncomputable def ref02_Low.code : Code := bodyOf f20
theorem ref02_Low.l0.step (n : Nat) (m0 : Nat) (n0_1 : Int) (i : Int) (v2 : Wide) (out : Wide) : it (EmR.no _) (ref02_Low.C n) n (Code.go ref02_Low.code [1, 1, 0, 1, 0, 0]) (blockK 0 (seqK (EmR.no _) (ref02_Low.C n) n (Code.go ref02_Low.code [1, 1, 1]) (bodyK (ref02_Low.C n) f20 ref02_Low.rs))) (m0 + 1) ⟨[(0, .dat (.int .i64) n0_1), (2, .ptr 2 0 TWide []), (3, .ptr 3 0 TWide []), (4, .dat (.int .i64) i)], [(2, .box 0 false (.dat TWide v2)), (3, .box 0 false (.dat TWide out))]⟩ = ref02_Low.s0 n (fun (i' : Int) (out' : Wide) => it (EmR.no _) (ref02_Low.C n) n (Code.go ref02_Low.code [1, 1, 0, 1, 0, 0]) (blockK 0 (seqK (EmR.no _) (ref02_Low.C n) n (Code.go ref02_Low.code [1, 1, 1]) (bodyK (ref02_Low.C n) f20 ref02_Low.rs))) m0 ⟨[(0, .dat (.int .i64) n0_1), (2, .ptr 2 0 TWide []), (3, .ptr 3 0 TWide []), (4, .dat (.int .i64) (i'))], [(2, .box 0 false (.dat TWide v2)), (3, .box 0 false (.dat TWide (out')))]⟩) n0_1 i v2 out := by kernel_rfl
theorem ref02_Low.l0.eq (n : Nat) (n0_1 : Int) (v2 : Wide) : ∀ (m0 : Nat) (i : Int) (out : Wide), it (EmR.no _) (ref02_Low.C n) n (Code.go ref02_Low.code [1, 1, 0, 1, 0, 0]) (blockK 0 (seqK (EmR.no _) (ref02_Low.C n) n (Code.go ref02_Low.code [1, 1, 1]) (bodyK (ref02_Low.C n) f20 ref02_Low.rs))) m0 ⟨[(0, .dat (.int .i64) n0_1), (2, .ptr 2 0 TWide []), (3, .ptr 3 0 TWide []), (4, .dat (.int .i64) i)], [(2, .box 0 false (.dat TWide v2)), (3, .box 0 false (.dat TWide out))]⟩ = ref02_Low.l0 n n0_1 v2 m0 i out
  | 0, _, _ => rfl
  | m0 + 1, i, out =>
    (ref02_Low.l0.step n m0 n0_1 i v2 out).trans (congr1 (fun k0 => ref02_Low.s0 n k0 n0_1 i v2 out) (funext fun i' => funext fun out' => ref02_Low.l0.eq n n0_1 v2 m0 i' out'))
theorem ref02_Low.run0 (n : Nat) (x : pdens ref02_Low.ps) : Vi.run (ref02_Low.C n) n f20 ref02_Low.ps ref02_Low.rs x = ref02_Low.s n (fun (n0_1' : Int) (i' : Int) (v2' : Wide) (out' : Wide) => it (EmR.no _) (ref02_Low.C n) n (Code.go ref02_Low.code [1, 1, 0, 1, 0, 0]) (blockK 0 (seqK (EmR.no _) (ref02_Low.C n) n (Code.go ref02_Low.code [1, 1, 1]) (bodyK (ref02_Low.C n) f20 ref02_Low.rs))) n ⟨[(0, .dat (.int .i64) (n0_1')), (2, .ptr 2 0 TWide []), (3, .ptr 3 0 TWide []), (4, .dat (.int .i64) (i'))], [(2, .box 0 false (.dat TWide (v2'))), (3, .box 0 false (.dat TWide (out')))]⟩) x := by kernel_rfl
theorem ref02_Low.eq (n : Nat) (x : pdens ref02_Low.ps) : Vi.run (ref02_Low.C n) n f20 ref02_Low.ps ref02_Low.rs x = ref02_Low n x :=
  (ref02_Low.run0 n x).trans (congr1 (fun k0 => ref02_Low.s n k0 x) (funext fun n0_1' => funext fun i' => funext fun v2' => funext fun out' => ref02_Low.l0.eq n n0_1' v2' n i' out'))
theorem ref02_Low.sound (n : Nat) : SoundE prog 20 (ref02_Low.e n) :=
  soundE_of_run (C := ref02_Low.C n) (n := n) (ref02_Low.ok n) func20 (by kernel_rfl) (by kernel_rfl) (fun x r h => (ref02_Low.eq n x).trans h)

def math_bits_OnesCount64.rs : List RTy := [.data (.int .i64)]
def math_bits_OnesCount64.ps : List PTy := [.data (.int .u64)]
noncomputable def math_bits_OnesCount64.e (n : Nat) : Ent := ⟨math_bits_OnesCount64.ps, math_bits_OnesCount64.rs, fun x => some (math_bits_OnesCount64 x)⟩
noncomputable def math_bits_OnesCount64.C (n : Nat) : Ctx := { tab := tab, fts := fts, pts := pts, Γ := lookO [], Γc := lookO [], Γs := lookO [], Γm := lookO [], Γo := lookO [], ntmps := f64.ntmps, keep := Vi.look ([], []) [], pins := [] }
theorem math_bits_OnesCount64.ok (n : Nat) : CtxOk prog (math_bits_OnesCount64.C n) := ⟨types, ftsOk_, ptsOk_, fns_nil, cls_nil, sqs_nil, ems_nil, mixed, ons_nil⟩
theorem math_bits_OnesCount64.eq (n : Nat) (x : pdens math_bits_OnesCount64.ps) : Vi.run (math_bits_OnesCount64.C n) n f64 math_bits_OnesCount64.ps math_bits_OnesCount64.rs x = some (math_bits_OnesCount64 x) := by kernel_rfl
theorem math_bits_OnesCount64.sound (n : Nat) : SoundE prog 64 (math_bits_OnesCount64.e n) :=
  soundE_of_run (C := math_bits_OnesCount64.C n) (n := n) (math_bits_OnesCount64.ok n) func64 (by kernel_rfl) (by kernel_rfl) (fun x r h => (math_bits_OnesCount64.eq n x).trans h)

def wide_Many.rs : List RTy := [.data (.int .i64)]
def wide_Many.ps : List PTy := [.data TWide]
noncomputable def wide_Many.e (n : Nat) : Ent := ⟨wide_Many.ps, wide_Many.rs, fun x => some (wide_Many x)⟩
noncomputable def wide_Many.C (n : Nat) : Ctx := { tab := tab, fts := fts, pts := pts, Γ := lookO [(64, math_bits_OnesCount64.e n)], Γc := lookO [], Γs := lookO [], Γm := lookO [], Γo := lookO [], ntmps := f32.ntmps, keep := Vi.look ([], []) [], pins := [] }
theorem wide_Many.ok (n : Nat) : CtxOk prog (wide_Many.C n) := ⟨types, ftsOk_, ptsOk_, (fns_cons (math_bits_OnesCount64.sound n) fns_nil), cls_nil, sqs_nil, ems_nil, mixed, ons_nil⟩
theorem wide_Many.eq (n : Nat) (x : pdens wide_Many.ps) : Vi.run (wide_Many.C n) n f32 wide_Many.ps wide_Many.rs x = some (wide_Many x) := by kernel_rfl
theorem wide_Many.sound (n : Nat) : SoundE prog 32 (wide_Many.e n) :=
  soundE_of_run (C := wide_Many.C n) (n := n) (wide_Many.ok n) func32 (by kernel_rfl) (by kernel_rfl) (fun x r h => (wide_Many.eq n x).trans h)

def wide_Put.rs : List RTy := [.fresh (.int .u8)]
def wide_Put.ps : List PTy := [.data (.slc (.int .u8)), .data TWide, .data (.int .i64)]
noncomputable def wide_Put.e (n : Nat) : Ent := ⟨wide_Put.ps, wide_Put.rs, fun x => wide_Put n x.1 x.2.1 x.2.2⟩
noncomputable def wide_Put.C (n : Nat) : Ctx := { tab := tab, fts := fts, pts := pts, Γ := lookO [], Γc := lookO [], Γs := lookO [], Γm := lookO [], Γo := lookO [], ntmps := f45.ntmps, keep := Vi.look ([], []) [(3, ([0, 2, 4, 7, 10], [4, 7]))], pins := [] }
theorem wide_Put.ok (n : Nat) : CtxOk prog (wide_Put.C n) := ⟨types, ftsOk_, ptsOk_, fns_nil, cls_nil, sqs_nil, ems_nil, mixed, ons_nil⟩
noncomputable def wide_Put.code : Code := bodyOf f45
theorem wide_Put.l0.step (n : Nat) (m0 : Nat) (b_1 : (List Int)) (size_1 : Int) (v10 : Int) (a_1 : Wide) (x : (List Int)) : it (EmR.no _) (wide_Put.C n) n (Code.go wide_Put.code [1, 1, 0, 1, 0, 0]) (blockK 0 (seqK (EmR.no _) (wide_Put.C n) n (Code.go wide_Put.code [1, 1, 1]) (bodyK (wide_Put.C n) f45 wide_Put.rs))) (m0 + 1) ⟨[(0, .dat (.slc (.int .u8)) b_1), (2, .dat (.int .i64) size_1), (4, .ptr 4 0 TWide []), (7, .ptr 7 0 (.arr 16 (.int .u8)) []), (10, .dat (.int .i64) v10)], [(4, .box 0 false (.dat TWide a_1)), (7, .box 0 false (.dat (.arr 16 (.int .u8)) x))]⟩ = wide_Put.s0 n (fun (v10' : Int) (x' : (List Int)) => it (EmR.no _) (wide_Put.C n) n (Code.go wide_Put.code [1, 1, 0, 1, 0, 0]) (blockK 0 (seqK (EmR.no _) (wide_Put.C n) n (Code.go wide_Put.code [1, 1, 1]) (bodyK (wide_Put.C n) f45 wide_Put.rs))) m0 ⟨[(0, .dat (.slc (.int .u8)) b_1), (2, .dat (.int .i64) size_1), (4, .ptr 4 0 TWide []), (7, .ptr 7 0 (.arr 16 (.int .u8)) []), (10, .dat (.int .i64) (v10'))], [(4, .box 0 false (.dat TWide a_1)), (7, .box 0 false (.dat (.arr 16 (.int .u8)) (x')))]⟩) b_1 size_1 v10 a_1 x := by kernel_rfl
theorem wide_Put.l0.eq (n : Nat) (b_1 : (List Int)) (size_1 : Int) (a_1 : Wide) : ∀ (m0 : Nat) (v10 : Int) (x : (List Int)), it (EmR.no _) (wide_Put.C n) n (Code.go wide_Put.code [1, 1, 0, 1, 0, 0]) (blockK 0 (seqK (EmR.no _) (wide_Put.C n) n (Code.go wide_Put.code [1, 1, 1]) (bodyK (wide_Put.C n) f45 wide_Put.rs))) m0 ⟨[(0, .dat (.slc (.int .u8)) b_1), (2, .dat (.int .i64) size_1), (4, .ptr 4 0 TWide []), (7, .ptr 7 0 (.arr 16 (.int .u8)) []), (10, .dat (.int .i64) v10)], [(4, .box 0 false (.dat TWide a_1)), (7, .box 0 false (.dat (.arr 16 (.int .u8)) x))]⟩ = wide_Put.l0 n b_1 size_1 a_1 m0 v10 x
  | 0, _, _ => rfl
  | m0 + 1, v10, x =>
    (wide_Put.l0.step n m0 b_1 size_1 v10 a_1 x).trans (congr1 (fun k0 => wide_Put.s0 n k0 b_1 size_1 v10 a_1 x) (funext fun v10' => funext fun x' => wide_Put.l0.eq n b_1 size_1 a_1 m0 v10' x'))
theorem wide_Put.run0 (n : Nat) (x : pdens wide_Put.ps) : Vi.run (wide_Put.C n) n f45 wide_Put.ps wide_Put.rs x = wide_Put.s n (fun (b_1' : (List Int)) (size_1' : Int) (v10' : Int) (a_1' : Wide) (x' : (List Int)) => it (EmR.no _) (wide_Put.C n) n (Code.go wide_Put.code [1, 1, 0, 1, 0, 0]) (blockK 0 (seqK (EmR.no _) (wide_Put.C n) n (Code.go wide_Put.code [1, 1, 1]) (bodyK (wide_Put.C n) f45 wide_Put.rs))) n ⟨[(0, .dat (.slc (.int .u8)) (b_1')), (2, .dat (.int .i64) (size_1')), (4, .ptr 4 0 TWide []), (7, .ptr 7 0 (.arr 16 (.int .u8)) []), (10, .dat (.int .i64) (v10'))], [(4, .box 0 false (.dat TWide (a_1'))), (7, .box 0 false (.dat (.arr 16 (.int .u8)) (x')))]⟩) x.1 x.2.1 x.2.2 := by kernel_rfl
theorem wide_Put.eq (n : Nat) (x : pdens wide_Put.ps) : Vi.run (wide_Put.C n) n f45 wide_Put.ps wide_Put.rs x = wide_Put n x.1 x.2.1 x.2.2 :=
  (wide_Put.run0 n x).trans (congr1 (fun k0 => wide_Put.s n k0 x.1 x.2.1 x.2.2) (funext fun b_1' => funext fun size_1' => funext fun v10' => funext fun a_1' => funext fun x' => wide_Put.l0.eq n b_1' size_1' a_1' n v10' x'))
theorem wide_Put.sound (n : Nat) : SoundE prog 45 (wide_Put.e n) :=
  soundE_of_run (C := wide_Put.C n) (n := n) (wide_Put.ok n) func45 (by kernel_rfl) (by kernel_rfl) (fun x r h => (wide_Put.eq n x).trans h)

def slices_Equal_byte.rs : List RTy := [.data .bool]
def slices_Equal_byte.ps : List PTy := [.data (.slc (.int .u8)), .data (.slc (.int .u8))]
noncomputable def slices_Equal_byte.e (n : Nat) : Ent := ⟨slices_Equal_byte.ps, slices_Equal_byte.rs, fun x => slices_Equal_byte n x.1 x.2⟩
noncomputable def slices_Equal_byte.C (n : Nat) : Ctx := { tab := tab, fts := fts, pts := pts, Γ := lookO [], Γc := lookO [], Γs := lookO [], Γm := lookO [], Γo := lookO [], ntmps := f48.ntmps, keep := Vi.look ([], []) [(4, ([0, 1, 12, 13], []))], pins := [] }
theorem slices_Equal_byte.ok (n : Nat) : CtxOk prog (slices_Equal_byte.C n) := ⟨types, ftsOk_, ptsOk_, fns_nil, cls_nil, sqs_nil, ems_nil, mixed, ons_nil⟩
noncomputable def slices_Equal_byte.code : Code := bodyOf f48
theorem slices_Equal_byte.l0.step (n : Nat) (m0 : Nat) (s1_1 : (List Int)) (s2_1 : (List Int)) (v12 : Int) (v13 : Int) : it (EmR.no _) (slices_Equal_byte.C n) n (Code.go slices_Equal_byte.code [1, 1, 0, 1, 0, 0]) (blockK 0 (seqK (EmR.no _) (slices_Equal_byte.C n) n (Code.go slices_Equal_byte.code [1, 1, 1]) (bodyK (slices_Equal_byte.C n) f48 slices_Equal_byte.rs))) (m0 + 1) ⟨[(0, .dat (.slc (.int .u8)) s1_1), (1, .dat (.slc (.int .u8)) s2_1), (12, .dat (.int .i64) v12), (13, .dat (.int .i64) v13)], []⟩ = slices_Equal_byte.s0 n (fun (v13' : Int) => it (EmR.no _) (slices_Equal_byte.C n) n (Code.go slices_Equal_byte.code [1, 1, 0, 1, 0, 0]) (blockK 0 (seqK (EmR.no _) (slices_Equal_byte.C n) n (Code.go slices_Equal_byte.code [1, 1, 1]) (bodyK (slices_Equal_byte.C n) f48 slices_Equal_byte.rs))) m0 ⟨[(0, .dat (.slc (.int .u8)) s1_1), (1, .dat (.slc (.int .u8)) s2_1), (12, .dat (.int .i64) v12), (13, .dat (.int .i64) (v13'))], []⟩) s1_1 s2_1 v12 v13 := by kernel_rfl
theorem slices_Equal_byte.l0.eq (n : Nat) (s1_1 : (List Int)) (s2_1 : (List Int)) (v12 : Int) : ∀ (m0 : Nat) (v13 : Int), it (EmR.no _) (slices_Equal_byte.C n) n (Code.go slices_Equal_byte.code [1, 1, 0, 1, 0, 0]) (blockK 0 (seqK (EmR.no _) (slices_Equal_byte.C n) n (Code.go slices_Equal_byte.code [1, 1, 1]) (bodyK (slices_Equal_byte.C n) f48 slices_Equal_byte.rs))) m0 ⟨[(0, .dat (.slc (.int .u8)) s1_1), (1, .dat (.slc (.int .u8)) s2_1), (12, .dat (.int .i64) v12), (13, .dat (.int .i64) v13)], []⟩ = slices_Equal_byte.l0 n s1_1 s2_1 v12 m0 v13
  | 0, _ => rfl
  | m0 + 1, v13 =>
    (slices_Equal_byte.l0.step n m0 s1_1 s2_1 v12 v13).trans (congr1 (fun k0 => slices_Equal_byte.s0 n k0 s1_1 s2_1 v12 v13) (funext fun v13' => slices_Equal_byte.l0.eq n s1_1 s2_1 v12 m0 v13'))
theorem slices_Equal_byte.run0 (n : Nat) (x : pdens slices_Equal_byte.ps) : Vi.run (slices_Equal_byte.C n) n f48 slices_Equal_byte.ps slices_Equal_byte.rs x = slices_Equal_byte.s n (fun (s1_1' : (List Int)) (s2_1' : (List Int)) (v12' : Int) (v13' : Int) => it (EmR.no _) (slices_Equal_byte.C n) n (Code.go slices_Equal_byte.code [1, 1, 0, 1, 0, 0]) (blockK 0 (seqK (EmR.no _) (slices_Equal_byte.C n) n (Code.go slices_Equal_byte.code [1, 1, 1]) (bodyK (slices_Equal_byte.C n) f48 slices_Equal_byte.rs))) n ⟨[(0, .dat (.slc (.int .u8)) (s1_1')), (1, .dat (.slc (.int .u8)) (s2_1')), (12, .dat (.int .i64) (v12')), (13, .dat (.int .i64) (v13'))], []⟩) x.1 x.2 := by kernel_rfl
theorem slices_Equal_byte.eq (n : Nat) (x : pdens slices_Equal_byte.ps) : Vi.run (slices_Equal_byte.C n) n f48 slices_Equal_byte.ps slices_Equal_byte.rs x = slices_Equal_byte n x.1 x.2 :=
  (slices_Equal_byte.run0 n x).trans (congr1 (fun k0 => slices_Equal_byte.s n k0 x.1 x.2) (funext fun s1_1' => funext fun s2_1' => funext fun v12' => funext fun v13' => slices_Equal_byte.l0.eq n s1_1' s2_1' v12' n v13'))
theorem slices_Equal_byte.sound (n : Nat) : SoundE prog 48 (slices_Equal_byte.e n) :=
  soundE_of_run (C := slices_Equal_byte.C n) (n := n) (slices_Equal_byte.ok n) func48 (by kernel_rfl) (by kernel_rfl) (fun x r h => (slices_Equal_byte.eq n x).trans h)

def law02_awake.rs : List RTy := [.data .bool]
def law02_awake.ps : List PTy := []
noncomputable def law02_awake.e (n : Nat) : Ent := ⟨law02_awake.ps, law02_awake.rs, fun x => law02_awake n⟩
noncomputable def law02_awake.C (n : Nat) : Ctx := { tab := tab, fts := fts, pts := pts, Γ := lookO [(15, wide_Bit.e n), (17, wide_Has.e n), (19, wide_Low.e n), (30, wide_Zero.e n), (32, wide_Many.e n), (45, wide_Put.e n), (48, slices_Equal_byte.e n)], Γc := lookO [], Γs := lookO [], Γm := lookO [], Γo := lookO [], ntmps := f21.ntmps, keep := Vi.look ([], []) [], pins := [] }
theorem law02_awake.ok (n : Nat) : CtxOk prog (law02_awake.C n) := ⟨types, ftsOk_, ptsOk_, (fns_cons (wide_Bit.sound n) (fns_cons (wide_Has.sound n) (fns_cons (wide_Low.sound n) (fns_cons (wide_Zero.sound n) (fns_cons (wide_Many.sound n) (fns_cons (wide_Put.sound n) (fns_cons (slices_Equal_byte.sound n) fns_nil))))))), cls_nil, sqs_nil, ems_nil, mixed, ons_nil⟩
theorem law02_awake.eq (n : Nat) (x : pdens law02_awake.ps) : Vi.run (law02_awake.C n) n f21 law02_awake.ps law02_awake.rs x = law02_awake n := by kernel_rfl
theorem law02_awake.sound (n : Nat) : SoundE prog 21 (law02_awake.e n) :=
  soundE_of_run (C := law02_awake.C n) (n := n) (law02_awake.ok n) func21 (by kernel_rfl) (by kernel_rfl) (fun x r h => (law02_awake.eq n x).trans h)

def law02_WideOne.rs : List RTy := [.data .bool]
def law02_WideOne.ps : List PTy := [.data TWide, .data (.int .i64)]
noncomputable def law02_WideOne.e (n : Nat) : Ent := ⟨law02_WideOne.ps, law02_WideOne.rs, fun x => law02_WideOne n x.1 x.2⟩
noncomputable def law02_WideOne.C (n : Nat) : Ctx := { tab := tab, fts := fts, pts := pts, Γ := lookO [(15, wide_Bit.e n), (16, ref02_Bit.e n), (17, wide_Has.e n), (18, ref02_Has.e n), (19, wide_Low.e n), (20, ref02_Low.e n), (21, law02_awake.e n)], Γc := lookO [], Γs := lookO [], Γm := lookO [], Γo := lookO [], ntmps := f3.ntmps, keep := Vi.look ([], []) [], pins := [] }
theorem law02_WideOne.ok (n : Nat) : CtxOk prog (law02_WideOne.C n) := ⟨types, ftsOk_, ptsOk_, (fns_cons (wide_Bit.sound n) (fns_cons (ref02_Bit.sound n) (fns_cons (wide_Has.sound n) (fns_cons (ref02_Has.sound n) (fns_cons (wide_Low.sound n) (fns_cons (ref02_Low.sound n) (fns_cons (law02_awake.sound n) fns_nil))))))), cls_nil, sqs_nil, ems_nil, mixed, ons_nil⟩
theorem law02_WideOne.eq (n : Nat) (x : pdens law02_WideOne.ps) : Vi.run (law02_WideOne.C n) n f3 law02_WideOne.ps law02_WideOne.rs x = law02_WideOne n x.1 x.2 := by kernel_rfl
theorem law02_WideOne.sound (n : Nat) : SoundE prog 3 (law02_WideOne.e n) :=
  soundE_of_run (C := law02_WideOne.C n) (n := n) (law02_WideOne.ok n) func3 (by kernel_rfl) (by kernel_rfl) (fun x r h => (law02_WideOne.eq n x).trans h)
def law02_WideOne.g (n : Nat) (x : pdens (law02_WideOne.τs.map PTy.data)) : Option Bool := law02_WideOne n x.1 x.2
theorem law02_WideOne.soundN (n : Nat) : SoundE prog 3 ⟨law02_WideOne.τs.map PTy.data, [.data .bool], law02_WideOne.g n⟩ := law02_WideOne.sound n

def wide_Or.rs : List RTy := [.data TWide]
def wide_Or.ps : List PTy := [.data TWide, .data TWide]
noncomputable def wide_Or.e (n : Nat) : Ent := ⟨wide_Or.ps, wide_Or.rs, fun x => some (wide_Or x.1 x.2)⟩
noncomputable def wide_Or.C (n : Nat) : Ctx := { tab := tab, fts := fts, pts := pts, Γ := lookO [], Γc := lookO [], Γs := lookO [], Γm := lookO [], Γo := lookO [], ntmps := f24.ntmps, keep := Vi.look ([], []) [], pins := [] }
theorem wide_Or.ok (n : Nat) : CtxOk prog (wide_Or.C n) := ⟨types, ftsOk_, ptsOk_, fns_nil, cls_nil, sqs_nil, ems_nil, mixed, ons_nil⟩
theorem wide_Or.eq (n : Nat) (x : pdens wide_Or.ps) : Vi.run (wide_Or.C n) n f24 wide_Or.ps wide_Or.rs x = some (wide_Or x.1 x.2) := by kernel_rfl
theorem wide_Or.sound (n : Nat) : SoundE prog 24 (wide_Or.e n) :=
  soundE_of_run (C := wide_Or.C n) (n := n) (wide_Or.ok n) func24 (by kernel_rfl) (by kernel_rfl) (fun x r h => (wide_Or.eq n x).trans h)

def wide_Xor.rs : List RTy := [.data TWide]
def wide_Xor.ps : List PTy := [.data TWide, .data TWide]
noncomputable def wide_Xor.e (n : Nat) : Ent := ⟨wide_Xor.ps, wide_Xor.rs, fun x => some (wide_Xor x.1 x.2)⟩
noncomputable def wide_Xor.C (n : Nat) : Ctx := { tab := tab, fts := fts, pts := pts, Γ := lookO [], Γc := lookO [], Γs := lookO [], Γm := lookO [], Γo := lookO [], ntmps := f26.ntmps, keep := Vi.look ([], []) [], pins := [] }
theorem wide_Xor.ok (n : Nat) : CtxOk prog (wide_Xor.C n) := ⟨types, ftsOk_, ptsOk_, fns_nil, cls_nil, sqs_nil, ems_nil, mixed, ons_nil⟩
theorem wide_Xor.eq (n : Nat) (x : pdens wide_Xor.ps) : Vi.run (wide_Xor.C n) n f26 wide_Xor.ps wide_Xor.rs x = some (wide_Xor x.1 x.2) := by kernel_rfl
theorem wide_Xor.sound (n : Nat) : SoundE prog 26 (wide_Xor.e n) :=
  soundE_of_run (C := wide_Xor.C n) (n := n) (wide_Xor.ok n) func26 (by kernel_rfl) (by kernel_rfl) (fun x r h => (wide_Xor.eq n x).trans h)

def ref02_Xor.rs : List RTy := [.data TWide]
def ref02_Xor.ps : List PTy := [.data TWide, .data TWide]
noncomputable def ref02_Xor.e (n : Nat) : Ent := ⟨ref02_Xor.ps, ref02_Xor.rs, fun x => some (ref02_Xor x.1 x.2)⟩
noncomputable def ref02_Xor.C (n : Nat) : Ctx := { tab := tab, fts := fts, pts := pts, Γ := lookO [], Γc := lookO [], Γs := lookO [], Γm := lookO [], Γo := lookO [], ntmps := f27.ntmps, keep := Vi.look ([], []) [], pins := [] }
theorem ref02_Xor.ok (n : Nat) : CtxOk prog (ref02_Xor.C n) := ⟨types, ftsOk_, ptsOk_, fns_nil, cls_nil, sqs_nil, ems_nil, mixed, ons_nil⟩
theorem ref02_Xor.eq (n : Nat) (x : pdens ref02_Xor.ps) : Vi.run (ref02_Xor.C n) n f27 ref02_Xor.ps ref02_Xor.rs x = some (ref02_Xor x.1 x.2) := by kernel_rfl
theorem ref02_Xor.sound (n : Nat) : SoundE prog 27 (ref02_Xor.e n) :=
  soundE_of_run (C := ref02_Xor.C n) (n := n) (ref02_Xor.ok n) func27 (by kernel_rfl) (by kernel_rfl) (fun x r h => (ref02_Xor.eq n x).trans h)

def wide_Less.rs : List RTy := [.data TWide]
def wide_Less.ps : List PTy := [.data TWide, .data TWide]
noncomputable def wide_Less.e (n : Nat) : Ent := ⟨wide_Less.ps, wide_Less.rs, fun x => some (wide_Less x.1 x.2)⟩
noncomputable def wide_Less.C (n : Nat) : Ctx := { tab := tab, fts := fts, pts := pts, Γ := lookO [], Γc := lookO [], Γs := lookO [], Γm := lookO [], Γo := lookO [], ntmps := f28.ntmps, keep := Vi.look ([], []) [], pins := [] }
theorem wide_Less.ok (n : Nat) : CtxOk prog (wide_Less.C n) := ⟨types, ftsOk_, ptsOk_, fns_nil, cls_nil, sqs_nil, ems_nil, mixed, ons_nil⟩
theorem wide_Less.eq (n : Nat) (x : pdens wide_Less.ps) : Vi.run (wide_Less.C n) n f28 wide_Less.ps wide_Less.rs x = some (wide_Less x.1 x.2) := by kernel_rfl
theorem wide_Less.sound (n : Nat) : SoundE prog 28 (wide_Less.e n) :=
  soundE_of_run (C := wide_Less.C n) (n := n) (wide_Less.ok n) func28 (by kernel_rfl) (by kernel_rfl) (fun x r h => (wide_Less.eq n x).trans h)

def ref02_Less.rs : List RTy := [.data TWide]
def ref02_Less.ps : List PTy := [.data TWide, .data TWide]
noncomputable def ref02_Less.e (n : Nat) : Ent := ⟨ref02_Less.ps, ref02_Less.rs, fun x => some (ref02_Less x.1 x.2)⟩
noncomputable def ref02_Less.C (n : Nat) : Ctx := { tab := tab, fts := fts, pts := pts, Γ := lookO [], Γc := lookO [], Γs := lookO [], Γm := lookO [], Γo := lookO [], ntmps := f29.ntmps, keep := Vi.look ([], []) [], pins := [] }
theorem ref02_Less.ok (n : Nat) : CtxOk prog (ref02_Less.C n) := ⟨types, ftsOk_, ptsOk_, fns_nil, cls_nil, sqs_nil, ems_nil, mixed, ons_nil⟩
theorem ref02_Less.eq (n : Nat) (x : pdens ref02_Less.ps) : Vi.run (ref02_Less.C n) n f29 ref02_Less.ps ref02_Less.rs x = some (ref02_Less x.1 x.2) := by kernel_rfl
theorem ref02_Less.sound (n : Nat) : SoundE prog 29 (ref02_Less.e n) :=
  soundE_of_run (C := ref02_Less.C n) (n := n) (ref02_Less.ok n) func29 (by kernel_rfl) (by kernel_rfl) (fun x r h => (ref02_Less.eq n x).trans h)

def ref02_Many.rs : List RTy := [.data (.int .i64)]
def ref02_Many.ps : List PTy := [.data TWide]
noncomputable def ref02_Many.e (n : Nat) : Ent := ⟨ref02_Many.ps, ref02_Many.rs, fun x => ref02_Many n x⟩
noncomputable def ref02_Many.C (n : Nat) : Ctx := { tab := tab, fts := fts, pts := pts, Γ := lookO [(18, ref02_Has.e n)], Γc := lookO [], Γs := lookO [], Γm := lookO [], Γo := lookO [], ntmps := f33.ntmps, keep := Vi.look ([], []) [(3, ([1, 3, 4], [1]))], pins := [] }
theorem ref02_Many.ok (n : Nat) : CtxOk prog (ref02_Many.C n) := ⟨types, ftsOk_, ptsOk_, (fns_cons (ref02_Has.sound n) fns_nil), cls_nil, sqs_nil, ems_nil, mixed, ons_nil⟩
noncomputable def ref02_Many.code : Code := bodyOf f33
theorem ref02_Many.l0.step (n : Nat) (m0 : Nat) (n3 : Int) (i : Int) (a_1 : Wide) : it (EmR.no _) (ref02_Many.C n) n (Code.go ref02_Many.code [1, 1, 0, 1, 0, 0]) (blockK 0 (seqK (EmR.no _) (ref02_Many.C n) n (Code.go ref02_Many.code [1, 1, 1]) (bodyK (ref02_Many.C n) f33 ref02_Many.rs))) (m0 + 1) ⟨[(1, .ptr 1 0 TWide []), (3, .dat (.int .i64) n3), (4, .dat (.int .i64) i)], [(1, .box 0 false (.dat TWide a_1))]⟩ = ref02_Many.s0 n (fun (n3' : Int) (i' : Int) => it (EmR.no _) (ref02_Many.C n) n (Code.go ref02_Many.code [1, 1, 0, 1, 0, 0]) (blockK 0 (seqK (EmR.no _) (ref02_Many.C n) n (Code.go ref02_Many.code [1, 1, 1]) (bodyK (ref02_Many.C n) f33 ref02_Many.rs))) m0 ⟨[(1, .ptr 1 0 TWide []), (3, .dat (.int .i64) (n3')), (4, .dat (.int .i64) (i'))], [(1, .box 0 false (.dat TWide a_1))]⟩) n3 i a_1 := by kernel_rfl
theorem ref02_Many.l0.eq (n : Nat) (a_1 : Wide) : ∀ (m0 : Nat) (n3 : Int) (i : Int), it (EmR.no _) (ref02_Many.C n) n (Code.go ref02_Many.code [1, 1, 0, 1, 0, 0]) (blockK 0 (seqK (EmR.no _) (ref02_Many.C n) n (Code.go ref02_Many.code [1, 1, 1]) (bodyK (ref02_Many.C n) f33 ref02_Many.rs))) m0 ⟨[(1, .ptr 1 0 TWide []), (3, .dat (.int .i64) n3), (4, .dat (.int .i64) i)], [(1, .box 0 false (.dat TWide a_1))]⟩ = ref02_Many.l0 n a_1 m0 n3 i
  | 0, _, _ => rfl
  | m0 + 1, n3, i =>
    (ref02_Many.l0.step n m0 n3 i a_1).trans (congr1 (fun k0 => ref02_Many.s0 n k0 n3 i a_1) (funext fun n3' => funext fun i' => ref02_Many.l0.eq n a_1 m0 n3' i'))
theorem ref02_Many.run0 (n : Nat) (x : pdens ref02_Many.ps) : Vi.run (ref02_Many.C n) n f33 ref02_Many.ps ref02_Many.rs x = ref02_Many.s n (fun (n3' : Int) (i' : Int) (a_1' : Wide) => it (EmR.no _) (ref02_Many.C n) n (Code.go ref02_Many.code [1, 1, 0, 1, 0, 0]) (blockK 0 (seqK (EmR.no _) (ref02_Many.C n) n (Code.go ref02_Many.code [1, 1, 1]) (bodyK (ref02_Many.C n) f33 ref02_Many.rs))) n ⟨[(1, .ptr 1 0 TWide []), (3, .dat (.int .i64) (n3')), (4, .dat (.int .i64) (i'))], [(1, .box 0 false (.dat TWide (a_1')))]⟩) x := by kernel_rfl
theorem ref02_Many.eq (n : Nat) (x : pdens ref02_Many.ps) : Vi.run (ref02_Many.C n) n f33 ref02_Many.ps ref02_Many.rs x = ref02_Many n x :=
  (ref02_Many.run0 n x).trans (congr1 (fun k0 => ref02_Many.s n k0 x) (funext fun n3' => funext fun i' => funext fun a_1' => ref02_Many.l0.eq n a_1' n n3' i'))
theorem ref02_Many.sound (n : Nat) : SoundE prog 33 (ref02_Many.e n) :=
  soundE_of_run (C := ref02_Many.C n) (n := n) (ref02_Many.ok n) func33 (by kernel_rfl) (by kernel_rfl) (fun x r h => (ref02_Many.eq n x).trans h)

def law02_WideBits.rs : List RTy := [.data .bool]
def law02_WideBits.ps : List PTy := [.data TWide, .data TWide]
noncomputable def law02_WideBits.e (n : Nat) : Ent := ⟨law02_WideBits.ps, law02_WideBits.rs, fun x => law02_WideBits n x.1 x.2⟩
noncomputable def law02_WideBits.C (n : Nat) : Ctx := { tab := tab, fts := fts, pts := pts, Γ := lookO [(21, law02_awake.e n), (22, wide_And.e n), (23, ref02_And.e n), (24, wide_Or.e n), (25, ref02_Or.e n), (26, wide_Xor.e n), (27, ref02_Xor.e n), (28, wide_Less.e n), (29, ref02_Less.e n), (30, wide_Zero.e n), (31, ref02_Zero.e n), (32, wide_Many.e n), (33, ref02_Many.e n)], Γc := lookO [], Γs := lookO [], Γm := lookO [], Γo := lookO [], ntmps := f4.ntmps, keep := Vi.look ([], []) [], pins := [] }
theorem law02_WideBits.ok (n : Nat) : CtxOk prog (law02_WideBits.C n) := ⟨types, ftsOk_, ptsOk_, (fns_cons (law02_awake.sound n) (fns_cons (wide_And.sound n) (fns_cons (ref02_And.sound n) (fns_cons (wide_Or.sound n) (fns_cons (ref02_Or.sound n) (fns_cons (wide_Xor.sound n) (fns_cons (ref02_Xor.sound n) (fns_cons (wide_Less.sound n) (fns_cons (ref02_Less.sound n) (fns_cons (wide_Zero.sound n) (fns_cons (ref02_Zero.sound n) (fns_cons (wide_Many.sound n) (fns_cons (ref02_Many.sound n) fns_nil))))))))))))), cls_nil, sqs_nil, ems_nil, mixed, ons_nil⟩
theorem law02_WideBits.eq (n : Nat) (x : pdens law02_WideBits.ps) : Vi.run (law02_WideBits.C n) n f4 law02_WideBits.ps law02_WideBits.rs x = law02_WideBits n x.1 x.2 := by kernel_rfl
theorem law02_WideBits.sound (n : Nat) : SoundE prog 4 (law02_WideBits.e n) :=
  soundE_of_run (C := law02_WideBits.C n) (n := n) (law02_WideBits.ok n) func4 (by kernel_rfl) (by kernel_rfl) (fun x r h => (law02_WideBits.eq n x).trans h)
def law02_WideBits.g (n : Nat) (x : pdens (law02_WideBits.τs.map PTy.data)) : Option Bool := law02_WideBits n x.1 x.2
theorem law02_WideBits.soundN (n : Nat) : SoundE prog 4 ⟨law02_WideBits.τs.map PTy.data, [.data .bool], law02_WideBits.g n⟩ := law02_WideBits.sound n

def law02_WideCounts.rs : List RTy := [.data .bool]
def law02_WideCounts.ps : List PTy := [.data TWide, .data TWide]
noncomputable def law02_WideCounts.e (n : Nat) : Ent := ⟨law02_WideCounts.ps, law02_WideCounts.rs, fun x => law02_WideCounts n x.1 x.2⟩
noncomputable def law02_WideCounts.C (n : Nat) : Ctx := { tab := tab, fts := fts, pts := pts, Γ := lookO [(21, law02_awake.e n), (22, wide_And.e n), (24, wide_Or.e n), (26, wide_Xor.e n), (28, wide_Less.e n), (32, wide_Many.e n)], Γc := lookO [], Γs := lookO [], Γm := lookO [], Γo := lookO [], ntmps := f5.ntmps, keep := Vi.look ([], []) [], pins := [] }
theorem law02_WideCounts.ok (n : Nat) : CtxOk prog (law02_WideCounts.C n) := ⟨types, ftsOk_, ptsOk_, (fns_cons (law02_awake.sound n) (fns_cons (wide_And.sound n) (fns_cons (wide_Or.sound n) (fns_cons (wide_Xor.sound n) (fns_cons (wide_Less.sound n) (fns_cons (wide_Many.sound n) fns_nil)))))), cls_nil, sqs_nil, ems_nil, mixed, ons_nil⟩
theorem law02_WideCounts.eq (n : Nat) (x : pdens law02_WideCounts.ps) : Vi.run (law02_WideCounts.C n) n f5 law02_WideCounts.ps law02_WideCounts.rs x = law02_WideCounts n x.1 x.2 := by kernel_rfl
theorem law02_WideCounts.sound (n : Nat) : SoundE prog 5 (law02_WideCounts.e n) :=
  soundE_of_run (C := law02_WideCounts.C n) (n := n) (law02_WideCounts.ok n) func5 (by kernel_rfl) (by kernel_rfl) (fun x r h => (law02_WideCounts.eq n x).trans h)
def law02_WideCounts.g (n : Nat) (x : pdens (law02_WideCounts.τs.map PTy.data)) : Option Bool := law02_WideCounts n x.1 x.2
theorem law02_WideCounts.soundN (n : Nat) : SoundE prog 5 ⟨law02_WideCounts.τs.map PTy.data, [.data .bool], law02_WideCounts.g n⟩ := law02_WideCounts.sound n

def wide_Get.rs : List RTy := [.data TWide, .data .bool]
def wide_Get.ps : List PTy := [.data (.slc (.int .u8)), .data (.int .i64)]
noncomputable def wide_Get.e (n : Nat) : Ent := ⟨wide_Get.ps, wide_Get.rs, fun x => wide_Get n x.1 x.2⟩
noncomputable def wide_Get.C (n : Nat) : Ctx := { tab := tab, fts := fts, pts := pts, Γ := lookO [], Γc := lookO [], Γs := lookO [], Γm := lookO [], Γo := lookO [], ntmps := f44.ntmps, keep := Vi.look ([], []) [(5, ([4, 6, 21, 22, 23], [4, 6]))], pins := [] }
theorem wide_Get.ok (n : Nat) : CtxOk prog (wide_Get.C n) := ⟨types, ftsOk_, ptsOk_, fns_nil, cls_nil, sqs_nil, ems_nil, mixed, ons_nil⟩
noncomputable def wide_Get.code : Code := bodyOf f44
theorem wide_Get.l0.step (n : Nat) (m0 : Nat) (v21 : (List Int)) (v22 : Int) (v23 : Int) (v4 : Wide) (a : Wide) : it (EmR.no _) (wide_Get.C n) n (Code.go wide_Get.code [1, 1, 1, 0, 1, 0, 0]) (blockK 0 (seqK (EmR.no _) (wide_Get.C n) n (Code.go wide_Get.code [1, 1, 1, 1]) (bodyK (wide_Get.C n) f44 wide_Get.rs))) (m0 + 1) ⟨[(4, .ptr 4 0 TWide []), (6, .ptr 6 0 TWide []), (21, .dat (.slc (.int .u8)) v21), (22, .dat (.int .i64) v22), (23, .dat (.int .i64) v23)], [(4, .box 0 false (.dat TWide v4)), (6, .box 0 false (.dat TWide a))]⟩ = wide_Get.s0 n (fun (v23' : Int) (a' : Wide) => it (EmR.no _) (wide_Get.C n) n (Code.go wide_Get.code [1, 1, 1, 0, 1, 0, 0]) (blockK 0 (seqK (EmR.no _) (wide_Get.C n) n (Code.go wide_Get.code [1, 1, 1, 1]) (bodyK (wide_Get.C n) f44 wide_Get.rs))) m0 ⟨[(4, .ptr 4 0 TWide []), (6, .ptr 6 0 TWide []), (21, .dat (.slc (.int .u8)) v21), (22, .dat (.int .i64) v22), (23, .dat (.int .i64) (v23'))], [(4, .box 0 false (.dat TWide v4)), (6, .box 0 false (.dat TWide (a')))]⟩) v21 v22 v23 v4 a := by kernel_rfl
theorem wide_Get.l0.eq (n : Nat) (v21 : (List Int)) (v22 : Int) (v4 : Wide) : ∀ (m0 : Nat) (v23 : Int) (a : Wide), it (EmR.no _) (wide_Get.C n) n (Code.go wide_Get.code [1, 1, 1, 0, 1, 0, 0]) (blockK 0 (seqK (EmR.no _) (wide_Get.C n) n (Code.go wide_Get.code [1, 1, 1, 1]) (bodyK (wide_Get.C n) f44 wide_Get.rs))) m0 ⟨[(4, .ptr 4 0 TWide []), (6, .ptr 6 0 TWide []), (21, .dat (.slc (.int .u8)) v21), (22, .dat (.int .i64) v22), (23, .dat (.int .i64) v23)], [(4, .box 0 false (.dat TWide v4)), (6, .box 0 false (.dat TWide a))]⟩ = wide_Get.l0 n v21 v22 v4 m0 v23 a
  | 0, _, _ => rfl
  | m0 + 1, v23, a =>
    (wide_Get.l0.step n m0 v21 v22 v23 v4 a).trans (congr1 (fun k0 => wide_Get.s0 n k0 v21 v22 v23 v4 a) (funext fun v23' => funext fun a' => wide_Get.l0.eq n v21 v22 v4 m0 v23' a'))
theorem wide_Get.run0 (n : Nat) (x : pdens wide_Get.ps) : Vi.run (wide_Get.C n) n f44 wide_Get.ps wide_Get.rs x = wide_Get.s n (fun (v21' : (List Int)) (v22' : Int) (v23' : Int) (v4' : Wide) (a' : Wide) => it (EmR.no _) (wide_Get.C n) n (Code.go wide_Get.code [1, 1, 1, 0, 1, 0, 0]) (blockK 0 (seqK (EmR.no _) (wide_Get.C n) n (Code.go wide_Get.code [1, 1, 1, 1]) (bodyK (wide_Get.C n) f44 wide_Get.rs))) n ⟨[(4, .ptr 4 0 TWide []), (6, .ptr 6 0 TWide []), (21, .dat (.slc (.int .u8)) (v21')), (22, .dat (.int .i64) (v22')), (23, .dat (.int .i64) (v23'))], [(4, .box 0 false (.dat TWide (v4'))), (6, .box 0 false (.dat TWide (a')))]⟩) x.1 x.2 := by kernel_rfl
theorem wide_Get.eq (n : Nat) (x : pdens wide_Get.ps) : Vi.run (wide_Get.C n) n f44 wide_Get.ps wide_Get.rs x = wide_Get n x.1 x.2 :=
  (wide_Get.run0 n x).trans (congr1 (fun k0 => wide_Get.s n k0 x.1 x.2) (funext fun v21' => funext fun v22' => funext fun v23' => funext fun v4' => funext fun a' => wide_Get.l0.eq n v21' v22' v4' n v23' a'))
theorem wide_Get.sound (n : Nat) : SoundE prog 44 (wide_Get.e n) :=
  soundE_of_run (C := wide_Get.C n) (n := n) (wide_Get.ok n) func44 (by kernel_rfl) (by kernel_rfl) (fun x r h => (wide_Get.eq n x).trans h)

def law02_WideBack.rs : List RTy := [.data .bool]
def law02_WideBack.ps : List PTy := [.data TWide, .data (.int .u8)]
noncomputable def law02_WideBack.e (n : Nat) : Ent := ⟨law02_WideBack.ps, law02_WideBack.rs, fun x => law02_WideBack n x.1 x.2⟩
noncomputable def law02_WideBack.C (n : Nat) : Ctx := { tab := tab, fts := fts, pts := pts, Γ := lookO [(19, wide_Low.e n), (21, law02_awake.e n), (22, wide_And.e n), (44, wide_Get.e n), (45, wide_Put.e n)], Γc := lookO [], Γs := lookO [], Γm := lookO [], Γo := lookO [], ntmps := f8.ntmps, keep := Vi.look ([], []) [], pins := [] }
theorem law02_WideBack.ok (n : Nat) : CtxOk prog (law02_WideBack.C n) := ⟨types, ftsOk_, ptsOk_, (fns_cons (wide_Low.sound n) (fns_cons (law02_awake.sound n) (fns_cons (wide_And.sound n) (fns_cons (wide_Get.sound n) (fns_cons (wide_Put.sound n) fns_nil))))), cls_nil, sqs_nil, ems_nil, mixed, ons_nil⟩
theorem law02_WideBack.eq (n : Nat) (x : pdens law02_WideBack.ps) : Vi.run (law02_WideBack.C n) n f8 law02_WideBack.ps law02_WideBack.rs x = law02_WideBack n x.1 x.2 := by kernel_rfl
theorem law02_WideBack.sound (n : Nat) : SoundE prog 8 (law02_WideBack.e n) :=
  soundE_of_run (C := law02_WideBack.C n) (n := n) (law02_WideBack.ok n) func8 (by kernel_rfl) (by kernel_rfl) (fun x r h => (law02_WideBack.eq n x).trans h)
def law02_WideBack.g (n : Nat) (x : pdens (law02_WideBack.τs.map PTy.data)) : Option Bool := law02_WideBack n x.1 x.2
theorem law02_WideBack.soundN (n : Nat) : SoundE prog 8 ⟨law02_WideBack.τs.map PTy.data, [.data .bool], law02_WideBack.g n⟩ := law02_WideBack.sound n

def slices_Clone_byte.rs : List RTy := [.fresh (.int .u8)]
def slices_Clone_byte.ps : List PTy := [.data (.slc (.int .u8))]
noncomputable def slices_Clone_byte.e (n : Nat) : Ent := ⟨slices_Clone_byte.ps, slices_Clone_byte.rs, fun x => slices_Clone_byte x⟩
noncomputable def slices_Clone_byte.C (n : Nat) : Ctx := { tab := tab, fts := fts, pts := pts, Γ := lookO [], Γc := lookO [], Γs := lookO [], Γm := lookO [], Γo := lookO [], ntmps := f46.ntmps, keep := Vi.look ([], []) [], pins := [] }
theorem slices_Clone_byte.ok (n : Nat) : CtxOk prog (slices_Clone_byte.C n) := ⟨types, ftsOk_, ptsOk_, fns_nil, cls_nil, sqs_nil, ems_nil, mixed, ons_nil⟩
theorem slices_Clone_byte.sound (n : Nat) : SoundE prog 46 (slices_Clone_byte.e n) :=
  soundE_of_nil (C := slices_Clone_byte.C n) (n := n) (slices_Clone_byte.ok n) func46 (by kernel_rfl) (by kernel_rfl) (by kernel_rfl)
    (fun r h => (show runS (slices_Clone_byte.C n) n f46 [(0, .nil)] slices_Clone_byte.rs = slices_Clone_byte [] by kernel_rfl).trans h)
    (fun x r h => (show runS (slices_Clone_byte.C n) n f46 [(0, .lst .nn (.int .u8) x)] slices_Clone_byte.rs = slices_Clone_byte x by kernel_rfl).trans h)

def ref02_Get.rs : List RTy := [.data TWide, .data .bool]
def ref02_Get.ps : List PTy := [.data (.slc (.int .u8)), .data (.int .i64)]
noncomputable def ref02_Get.e (n : Nat) : Ent := ⟨ref02_Get.ps, ref02_Get.rs, fun x => ref02_Get n x.1 x.2⟩
noncomputable def ref02_Get.C (n : Nat) : Ctx := { tab := tab, fts := fts, pts := pts, Γ := lookO [], Γc := lookO [], Γs := lookO [], Γm := lookO [], Γo := lookO [], ntmps := f47.ntmps, keep := Vi.look ([], []) [(5, ([0, 1, 4, 6, 7], [4, 6]))], pins := [] }
theorem ref02_Get.ok (n : Nat) : CtxOk prog (ref02_Get.C n) := ⟨types, ftsOk_, ptsOk_, fns_nil, cls_nil, sqs_nil, ems_nil, mixed, ons_nil⟩
noncomputable def ref02_Get.code : Code := bodyOf f47
theorem ref02_Get.l0.step (n : Nat) (m0 : Nat) (b_1 : (List Int)) (size_1 : Int) (i : Int) (v4 : Wide) (out : Wide) : it (EmR.no _) (ref02_Get.C n) n (Code.go ref02_Get.code [1, 1, 1, 0, 1, 0, 0]) (blockK 0 (seqK (EmR.no _) (ref02_Get.C n) n (Code.go ref02_Get.code [1, 1, 1, 1]) (bodyK (ref02_Get.C n) f47 ref02_Get.rs))) (m0 + 1) ⟨[(0, .dat (.slc (.int .u8)) b_1), (1, .dat (.int .i64) size_1), (4, .ptr 4 0 TWide []), (6, .ptr 6 0 TWide []), (7, .dat (.int .i64) i)], [(4, .box 0 false (.dat TWide v4)), (6, .box 0 false (.dat TWide out))]⟩ = ref02_Get.s0 n (fun (i' : Int) (out' : Wide) => it (EmR.no _) (ref02_Get.C n) n (Code.go ref02_Get.code [1, 1, 1, 0, 1, 0, 0]) (blockK 0 (seqK (EmR.no _) (ref02_Get.C n) n (Code.go ref02_Get.code [1, 1, 1, 1]) (bodyK (ref02_Get.C n) f47 ref02_Get.rs))) m0 ⟨[(0, .dat (.slc (.int .u8)) b_1), (1, .dat (.int .i64) size_1), (4, .ptr 4 0 TWide []), (6, .ptr 6 0 TWide []), (7, .dat (.int .i64) (i'))], [(4, .box 0 false (.dat TWide v4)), (6, .box 0 false (.dat TWide (out')))]⟩) b_1 size_1 i v4 out := by kernel_rfl
theorem ref02_Get.l0.eq (n : Nat) (b_1 : (List Int)) (size_1 : Int) (v4 : Wide) : ∀ (m0 : Nat) (i : Int) (out : Wide), it (EmR.no _) (ref02_Get.C n) n (Code.go ref02_Get.code [1, 1, 1, 0, 1, 0, 0]) (blockK 0 (seqK (EmR.no _) (ref02_Get.C n) n (Code.go ref02_Get.code [1, 1, 1, 1]) (bodyK (ref02_Get.C n) f47 ref02_Get.rs))) m0 ⟨[(0, .dat (.slc (.int .u8)) b_1), (1, .dat (.int .i64) size_1), (4, .ptr 4 0 TWide []), (6, .ptr 6 0 TWide []), (7, .dat (.int .i64) i)], [(4, .box 0 false (.dat TWide v4)), (6, .box 0 false (.dat TWide out))]⟩ = ref02_Get.l0 n b_1 size_1 v4 m0 i out
  | 0, _, _ => rfl
  | m0 + 1, i, out =>
    (ref02_Get.l0.step n m0 b_1 size_1 i v4 out).trans (congr1 (fun k0 => ref02_Get.s0 n k0 b_1 size_1 i v4 out) (funext fun i' => funext fun out' => ref02_Get.l0.eq n b_1 size_1 v4 m0 i' out'))
theorem ref02_Get.run0 (n : Nat) (x : pdens ref02_Get.ps) : Vi.run (ref02_Get.C n) n f47 ref02_Get.ps ref02_Get.rs x = ref02_Get.s n (fun (b_1' : (List Int)) (size_1' : Int) (i' : Int) (v4' : Wide) (out' : Wide) => it (EmR.no _) (ref02_Get.C n) n (Code.go ref02_Get.code [1, 1, 1, 0, 1, 0, 0]) (blockK 0 (seqK (EmR.no _) (ref02_Get.C n) n (Code.go ref02_Get.code [1, 1, 1, 1]) (bodyK (ref02_Get.C n) f47 ref02_Get.rs))) n ⟨[(0, .dat (.slc (.int .u8)) (b_1')), (1, .dat (.int .i64) (size_1')), (4, .ptr 4 0 TWide []), (6, .ptr 6 0 TWide []), (7, .dat (.int .i64) (i'))], [(4, .box 0 false (.dat TWide (v4'))), (6, .box 0 false (.dat TWide (out')))]⟩) x.1 x.2 := by kernel_rfl
theorem ref02_Get.eq (n : Nat) (x : pdens ref02_Get.ps) : Vi.run (ref02_Get.C n) n f47 ref02_Get.ps ref02_Get.rs x = ref02_Get n x.1 x.2 :=
  (ref02_Get.run0 n x).trans (congr1 (fun k0 => ref02_Get.s n k0 x.1 x.2) (funext fun b_1' => funext fun size_1' => funext fun i' => funext fun v4' => funext fun out' => ref02_Get.l0.eq n b_1' size_1' v4' n i' out'))
theorem ref02_Get.sound (n : Nat) : SoundE prog 47 (ref02_Get.e n) :=
  soundE_of_run (C := ref02_Get.C n) (n := n) (ref02_Get.ok n) func47 (by kernel_rfl) (by kernel_rfl) (fun x r h => (ref02_Get.eq n x).trans h)

def ref02_part.rs : List RTy := [.data (.int .u8)]
def ref02_part.ps : List PTy := [.data TWide, .data (.int .i64)]
noncomputable def ref02_part.e (n : Nat) : Ent := ⟨ref02_part.ps, ref02_part.rs, fun x => ref02_part x.1 x.2⟩
noncomputable def ref02_part.C (n : Nat) : Ctx := { tab := tab, fts := fts, pts := pts, Γ := lookO [], Γc := lookO [], Γs := lookO [], Γm := lookO [], Γo := lookO [], ntmps := f72.ntmps, keep := Vi.look ([], []) [], pins := [] }
theorem ref02_part.ok (n : Nat) : CtxOk prog (ref02_part.C n) := ⟨types, ftsOk_, ptsOk_, fns_nil, cls_nil, sqs_nil, ems_nil, mixed, ons_nil⟩
theorem ref02_part.eq (n : Nat) (x : pdens ref02_part.ps) : Vi.run (ref02_part.C n) n f72 ref02_part.ps ref02_part.rs x = ref02_part x.1 x.2 := by kernel_rfl
theorem ref02_part.sound (n : Nat) : SoundE prog 72 (ref02_part.e n) :=
  soundE_of_run (C := ref02_part.C n) (n := n) (ref02_part.ok n) func72 (by kernel_rfl) (by kernel_rfl) (fun x r h => (ref02_part.eq n x).trans h)

def ref02_Put.rs : List RTy := [.fresh (.int .u8)]
def ref02_Put.ps : List PTy := [.data (.slc (.int .u8)), .data TWide, .data (.int .i64)]
noncomputable def ref02_Put.e (n : Nat) : Ent := ⟨ref02_Put.ps, ref02_Put.rs, fun x => ref02_Put n x.1 x.2.1 x.2.2⟩
noncomputable def ref02_Put.C (n : Nat) : Ctx := { tab := tab, fts := fts, pts := pts, Γ := lookO [(72, ref02_part.e n)], Γc := lookO [], Γs := lookO [], Γm := lookO [], Γo := lookO [], ntmps := f49.ntmps, keep := Vi.look ([], []) [(3, ([4, 7, 8], [4]))], pins := [] }
theorem ref02_Put.ok (n : Nat) : CtxOk prog (ref02_Put.C n) := ⟨types, ftsOk_, ptsOk_, (fns_cons (ref02_part.sound n) fns_nil), cls_nil, sqs_nil, ems_nil, mixed, ons_nil⟩
noncomputable def ref02_Put.code : Code := bodyOf f49
theorem ref02_Put.l0.step (n : Nat) (m0 : Nat) (out : (List Int)) (i : Int) (a_1 : Wide) : it (EmR.no _) (ref02_Put.C n) n (Code.go ref02_Put.code [1, 1, 0, 1, 0, 0]) (blockK 0 (seqK (EmR.no _) (ref02_Put.C n) n (Code.go ref02_Put.code [1, 1, 1]) (bodyK (ref02_Put.C n) f49 ref02_Put.rs))) (m0 + 1) ⟨[(4, .ptr 4 0 TWide []), (7, .lst (.tip 100007 0) (.int .u8) out), (8, .dat (.int .i64) i)], [(100007, .tok 0), (4, .box 0 false (.dat TWide a_1))]⟩ = ref02_Put.s0 n (fun (out' : (List Int)) (i' : Int) => it (EmR.no _) (ref02_Put.C n) n (Code.go ref02_Put.code [1, 1, 0, 1, 0, 0]) (blockK 0 (seqK (EmR.no _) (ref02_Put.C n) n (Code.go ref02_Put.code [1, 1, 1]) (bodyK (ref02_Put.C n) f49 ref02_Put.rs))) m0 ⟨[(4, .ptr 4 0 TWide []), (7, .lst (.tip 100007 0) (.int .u8) (out')), (8, .dat (.int .i64) (i'))], [(100007, .tok 0), (4, .box 0 false (.dat TWide a_1))]⟩) out i a_1 := by kernel_rfl
theorem ref02_Put.l0.eq (n : Nat) (a_1 : Wide) : ∀ (m0 : Nat) (out : (List Int)) (i : Int), it (EmR.no _) (ref02_Put.C n) n (Code.go ref02_Put.code [1, 1, 0, 1, 0, 0]) (blockK 0 (seqK (EmR.no _) (ref02_Put.C n) n (Code.go ref02_Put.code [1, 1, 1]) (bodyK (ref02_Put.C n) f49 ref02_Put.rs))) m0 ⟨[(4, .ptr 4 0 TWide []), (7, .lst (.tip 100007 0) (.int .u8) out), (8, .dat (.int .i64) i)], [(100007, .tok 0), (4, .box 0 false (.dat TWide a_1))]⟩ = ref02_Put.l0 n a_1 m0 out i
  | 0, _, _ => rfl
  | m0 + 1, out, i =>
    (ref02_Put.l0.step n m0 out i a_1).trans (congr1 (fun k0 => ref02_Put.s0 n k0 out i a_1) (funext fun out' => funext fun i' => ref02_Put.l0.eq n a_1 m0 out' i'))
theorem ref02_Put.run0 (n : Nat) (x : pdens ref02_Put.ps) : Vi.run (ref02_Put.C n) n f49 ref02_Put.ps ref02_Put.rs x = ref02_Put.s n (fun (out' : (List Int)) (i' : Int) (a_1' : Wide) => it (EmR.no _) (ref02_Put.C n) n (Code.go ref02_Put.code [1, 1, 0, 1, 0, 0]) (blockK 0 (seqK (EmR.no _) (ref02_Put.C n) n (Code.go ref02_Put.code [1, 1, 1]) (bodyK (ref02_Put.C n) f49 ref02_Put.rs))) n ⟨[(4, .ptr 4 0 TWide []), (7, .lst (.tip 100007 0) (.int .u8) (out')), (8, .dat (.int .i64) (i'))], [(100007, .tok 0), (4, .box 0 false (.dat TWide (a_1')))]⟩) x.1 x.2.1 x.2.2 := by kernel_rfl
theorem ref02_Put.eq (n : Nat) (x : pdens ref02_Put.ps) : Vi.run (ref02_Put.C n) n f49 ref02_Put.ps ref02_Put.rs x = ref02_Put n x.1 x.2.1 x.2.2 :=
  (ref02_Put.run0 n x).trans (congr1 (fun k0 => ref02_Put.s n k0 x.1 x.2.1 x.2.2) (funext fun out' => funext fun i' => funext fun a_1' => ref02_Put.l0.eq n a_1' n out' i'))
theorem ref02_Put.sound (n : Nat) : SoundE prog 49 (ref02_Put.e n) :=
  soundE_of_run (C := ref02_Put.C n) (n := n) (ref02_Put.ok n) func49 (by kernel_rfl) (by kernel_rfl) (fun x r h => (ref02_Put.eq n x).trans h)

def law02_WidePuts.rs : List RTy := [.data .bool]
def law02_WidePuts.ps : List PTy := [.data (.slc (.int .u8)), .data TWide, .data (.int .i64)]
noncomputable def law02_WidePuts.e (n : Nat) : Ent := ⟨law02_WidePuts.ps, law02_WidePuts.rs, fun x => law02_WidePuts n x.1 x.2.1 x.2.2⟩
noncomputable def law02_WidePuts.C (n : Nat) : Ctx := { tab := tab, fts := fts, pts := pts, Γ := lookO [(21, law02_awake.e n), (44, wide_Get.e n), (45, wide_Put.e n), (46, slices_Clone_byte.e n), (47, ref02_Get.e n), (48, slices_Equal_byte.e n), (49, ref02_Put.e n)], Γc := lookO [], Γs := lookO [], Γm := lookO [], Γo := lookO [], ntmps := f9.ntmps, keep := Vi.look ([], []) [], pins := [] }
theorem law02_WidePuts.ok (n : Nat) : CtxOk prog (law02_WidePuts.C n) := ⟨types, ftsOk_, ptsOk_, (fns_cons (law02_awake.sound n) (fns_cons (wide_Get.sound n) (fns_cons (wide_Put.sound n) (fns_cons (slices_Clone_byte.sound n) (fns_cons (ref02_Get.sound n) (fns_cons (slices_Equal_byte.sound n) (fns_cons (ref02_Put.sound n) fns_nil))))))), cls_nil, sqs_nil, ems_nil, mixed, ons_nil⟩
theorem law02_WidePuts.eq (n : Nat) (x : pdens law02_WidePuts.ps) : Vi.run (law02_WidePuts.C n) n f9 law02_WidePuts.ps law02_WidePuts.rs x = law02_WidePuts n x.1 x.2.1 x.2.2 := by kernel_rfl
theorem law02_WidePuts.sound (n : Nat) : SoundE prog 9 (law02_WidePuts.e n) :=
  soundE_of_run (C := law02_WidePuts.C n) (n := n) (law02_WidePuts.ok n) func9 (by kernel_rfl) (by kernel_rfl) (fun x r h => (law02_WidePuts.eq n x).trans h)
def law02_WidePuts.g (n : Nat) (x : pdens (law02_WidePuts.τs.map PTy.data)) : Option Bool := law02_WidePuts n x.1 x.2.1 x.2.2
theorem law02_WidePuts.soundN (n : Nat) : SoundE prog 9 ⟨law02_WidePuts.τs.map PTy.data, [.data .bool], law02_WidePuts.g n⟩ := law02_WidePuts.sound n

def fault_Of.rs : List RTy := [.data TFault]
def fault_Of.ps : List PTy := [.data (.int .i64), .data (.int .i64)]
noncomputable def fault_Of.e (n : Nat) : Ent := ⟨fault_Of.ps, fault_Of.rs, fun x => some (fault_Of x.1 x.2)⟩
noncomputable def fault_Of.C (n : Nat) : Ctx := { tab := tab, fts := fts, pts := pts, Γ := lookO [], Γc := lookO [], Γs := lookO [], Γm := lookO [], Γo := lookO [], ntmps := f38.ntmps, keep := Vi.look ([], []) [], pins := [] }
theorem fault_Of.ok (n : Nat) : CtxOk prog (fault_Of.C n) := ⟨types, ftsOk_, ptsOk_, fns_nil, cls_nil, sqs_nil, ems_nil, mixed, ons_nil⟩
theorem fault_Of.eq (n : Nat) (x : pdens fault_Of.ps) : Vi.run (fault_Of.C n) n f38 fault_Of.ps fault_Of.rs x = some (fault_Of x.1 x.2) := by kernel_rfl
theorem fault_Of.sound (n : Nat) : SoundE prog 38 (fault_Of.e n) :=
  soundE_of_run (C := fault_Of.C n) (n := n) (fault_Of.ok n) func38 (by kernel_rfl) (by kernel_rfl) (fun x r h => (fault_Of.eq n x).trans h)

def num_sized.rs : List RTy := [.data .bool]
def num_sized.ps : List PTy := [.data (.int .i64)]
noncomputable def num_sized.e (n : Nat) : Ent := ⟨num_sized.ps, num_sized.rs, fun x => some (num_sized x)⟩
noncomputable def num_sized.C (n : Nat) : Ctx := { tab := tab, fts := fts, pts := pts, Γ := lookO [], Γc := lookO [], Γs := lookO [], Γm := lookO [], Γo := lookO [], ntmps := f79.ntmps, keep := Vi.look ([], []) [], pins := [] }
theorem num_sized.ok (n : Nat) : CtxOk prog (num_sized.C n) := ⟨types, ftsOk_, ptsOk_, fns_nil, cls_nil, sqs_nil, ems_nil, mixed, ons_nil⟩
theorem num_sized.run0 (n : Nat) (x : pdens num_sized.ps) : Vi.run (num_sized.C n) n f79 num_sized.ps num_sized.rs x = num_sized.o x := by kernel_rfl
theorem num_sized.eq (n : Nat) (x : pdens num_sized.ps) : Vi.run (num_sized.C n) n f79 num_sized.ps num_sized.rs x = some (num_sized x) := (num_sized.run0 n x).trans (num_sized.o_eq _)
theorem num_sized.sound (n : Nat) : SoundE prog 79 (num_sized.e n) :=
  soundE_of_run (C := num_sized.C n) (n := n) (num_sized.ok n) func79 (by kernel_rfl) (by kernel_rfl) (fun x r h => (num_sized.eq n x).trans h)

def num_Right.rs : List RTy := [.data .bool]
def num_Right.ps : List PTy := [.data (.int .i64), .data (.int .i64)]
noncomputable def num_Right.e (n : Nat) : Ent := ⟨num_Right.ps, num_Right.rs, fun x => num_Right x.1 x.2⟩
noncomputable def num_Right.C (n : Nat) : Ctx := { tab := tab, fts := fts, pts := pts, Γ := lookO [(79, num_sized.e n)], Γc := lookO [], Γs := lookO [], Γm := lookO [], Γo := lookO [], ntmps := f65.ntmps, keep := Vi.look ([], []) [], pins := [] }
theorem num_Right.ok (n : Nat) : CtxOk prog (num_Right.C n) := ⟨types, ftsOk_, ptsOk_, (fns_cons (num_sized.sound n) fns_nil), cls_nil, sqs_nil, ems_nil, mixed, ons_nil⟩
theorem num_Right.eq (n : Nat) (x : pdens num_Right.ps) : Vi.run (num_Right.C n) n f65 num_Right.ps num_Right.rs x = num_Right x.1 x.2 := by kernel_rfl
theorem num_Right.sound (n : Nat) : SoundE prog 65 (num_Right.e n) :=
  soundE_of_run (C := num_Right.C n) (n := n) (num_Right.ok n) func65 (by kernel_rfl) (by kernel_rfl) (fun x r h => (num_Right.eq n x).trans h)

def num_Put.rs : List RTy := [.fresh (.int .u8)]
def num_Put.ps : List PTy := [.data (.slc (.int .u8)), .data (.int .i64), .data (.int .i64)]
noncomputable def num_Put.e (n : Nat) : Ent := ⟨num_Put.ps, num_Put.rs, fun x => num_Put n x.1 x.2.1 x.2.2⟩
noncomputable def num_Put.C (n : Nat) : Ctx := { tab := tab, fts := fts, pts := pts, Γ := lookO [(65, num_Right.e n)], Γc := lookO [], Γs := lookO [], Γm := lookO [], Γo := lookO [], ntmps := f66.ntmps, keep := Vi.look ([], []) [(5, ([0, 1, 2, 7, 15], [7]))], pins := [] }
theorem num_Put.ok (n : Nat) : CtxOk prog (num_Put.C n) := ⟨types, ftsOk_, ptsOk_, (fns_cons (num_Right.sound n) fns_nil), cls_nil, sqs_nil, ems_nil, mixed, ons_nil⟩
noncomputable def num_Put.code : Code := bodyOf f66
theorem num_Put.l0.step (n : Nat) (m0 : Nat) (b_1 : (List Int)) (n1_1 : Int) (size_1 : Int) (v15 : Int) (x : (List Int)) : it (EmR.no _) (num_Put.C n) n (Code.go num_Put.code [1, 1, 1, 0, 1, 0, 0]) (blockK 0 (seqK (EmR.no _) (num_Put.C n) n (Code.go num_Put.code [1, 1, 1, 1]) (bodyK (num_Put.C n) f66 num_Put.rs))) (m0 + 1) ⟨[(0, .dat (.slc (.int .u8)) b_1), (1, .dat (.int .i64) n1_1), (2, .dat (.int .i64) size_1), (7, .ptr 7 0 (.arr 4 (.int .u8)) []), (15, .dat (.int .i64) v15)], [(7, .box 0 false (.dat (.arr 4 (.int .u8)) x))]⟩ = num_Put.s0 n (fun (v15' : Int) (x' : (List Int)) => it (EmR.no _) (num_Put.C n) n (Code.go num_Put.code [1, 1, 1, 0, 1, 0, 0]) (blockK 0 (seqK (EmR.no _) (num_Put.C n) n (Code.go num_Put.code [1, 1, 1, 1]) (bodyK (num_Put.C n) f66 num_Put.rs))) m0 ⟨[(0, .dat (.slc (.int .u8)) b_1), (1, .dat (.int .i64) n1_1), (2, .dat (.int .i64) size_1), (7, .ptr 7 0 (.arr 4 (.int .u8)) []), (15, .dat (.int .i64) (v15'))], [(7, .box 0 false (.dat (.arr 4 (.int .u8)) (x')))]⟩) b_1 n1_1 size_1 v15 x := by kernel_rfl
theorem num_Put.l0.eq (n : Nat) (b_1 : (List Int)) (n1_1 : Int) (size_1 : Int) : ∀ (m0 : Nat) (v15 : Int) (x : (List Int)), it (EmR.no _) (num_Put.C n) n (Code.go num_Put.code [1, 1, 1, 0, 1, 0, 0]) (blockK 0 (seqK (EmR.no _) (num_Put.C n) n (Code.go num_Put.code [1, 1, 1, 1]) (bodyK (num_Put.C n) f66 num_Put.rs))) m0 ⟨[(0, .dat (.slc (.int .u8)) b_1), (1, .dat (.int .i64) n1_1), (2, .dat (.int .i64) size_1), (7, .ptr 7 0 (.arr 4 (.int .u8)) []), (15, .dat (.int .i64) v15)], [(7, .box 0 false (.dat (.arr 4 (.int .u8)) x))]⟩ = num_Put.l0 n b_1 n1_1 size_1 m0 v15 x
  | 0, _, _ => rfl
  | m0 + 1, v15, x =>
    (num_Put.l0.step n m0 b_1 n1_1 size_1 v15 x).trans (congr1 (fun k0 => num_Put.s0 n k0 b_1 n1_1 size_1 v15 x) (funext fun v15' => funext fun x' => num_Put.l0.eq n b_1 n1_1 size_1 m0 v15' x'))
theorem num_Put.run0 (n : Nat) (x : pdens num_Put.ps) : Vi.run (num_Put.C n) n f66 num_Put.ps num_Put.rs x = num_Put.s n (fun (b_1' : (List Int)) (n1_1' : Int) (size_1' : Int) (v15' : Int) (x' : (List Int)) => it (EmR.no _) (num_Put.C n) n (Code.go num_Put.code [1, 1, 1, 0, 1, 0, 0]) (blockK 0 (seqK (EmR.no _) (num_Put.C n) n (Code.go num_Put.code [1, 1, 1, 1]) (bodyK (num_Put.C n) f66 num_Put.rs))) n ⟨[(0, .dat (.slc (.int .u8)) (b_1')), (1, .dat (.int .i64) (n1_1')), (2, .dat (.int .i64) (size_1')), (7, .ptr 7 0 (.arr 4 (.int .u8)) []), (15, .dat (.int .i64) (v15'))], [(7, .box 0 false (.dat (.arr 4 (.int .u8)) (x')))]⟩) x.1 x.2.1 x.2.2 := by kernel_rfl
theorem num_Put.eq (n : Nat) (x : pdens num_Put.ps) : Vi.run (num_Put.C n) n f66 num_Put.ps num_Put.rs x = num_Put n x.1 x.2.1 x.2.2 :=
  (num_Put.run0 n x).trans (congr1 (fun k0 => num_Put.s n k0 x.1 x.2.1 x.2.2) (funext fun b_1' => funext fun n1_1' => funext fun size_1' => funext fun v15' => funext fun x' => num_Put.l0.eq n b_1' n1_1' size_1' n v15' x'))
theorem num_Put.sound (n : Nat) : SoundE prog 66 (num_Put.e n) :=
  soundE_of_run (C := num_Put.C n) (n := n) (num_Put.ok n) func66 (by kernel_rfl) (by kernel_rfl) (fun x r h => (num_Put.eq n x).trans h)

def num_Get.rs : List RTy := [.data (.int .i64), .data (.int .i64)]
def num_Get.ps : List PTy := [.data (.slc (.int .u8)), .data (.int .i64), .data (.int .i64)]
noncomputable def num_Get.e (n : Nat) : Ent := ⟨num_Get.ps, num_Get.rs, fun x => num_Get n x.1 x.2.1 x.2.2⟩
noncomputable def num_Get.C (n : Nat) : Ctx := { tab := tab, fts := fts, pts := pts, Γ := lookO [(79, num_sized.e n)], Γc := lookO [], Γs := lookO [], Γm := lookO [], Γo := lookO [], ntmps := f71.ntmps, keep := Vi.look ([], []) [(7, ([8, 29, 30, 31], []))], pins := [] }
theorem num_Get.ok (n : Nat) : CtxOk prog (num_Get.C n) := ⟨types, ftsOk_, ptsOk_, (fns_cons (num_sized.sound n) fns_nil), cls_nil, sqs_nil, ems_nil, mixed, ons_nil⟩
noncomputable def num_Get.code : Code := bodyOf f71
theorem num_Get.l0.step (n : Nat) (m0 : Nat) (n8 : Int) (v29 : (List Int)) (v30 : Int) (v31 : Int) : it (EmR.no _) (num_Get.C n) n (Code.go num_Get.code [1, 1, 1, 1, 0, 1, 0, 0]) (blockK 0 (seqK (EmR.no _) (num_Get.C n) n (Code.go num_Get.code [1, 1, 1, 1, 1]) (bodyK (num_Get.C n) f71 num_Get.rs))) (m0 + 1) ⟨[(8, .dat (.int .i64) n8), (29, .dat (.slc (.int .u8)) v29), (30, .dat (.int .i64) v30), (31, .dat (.int .i64) v31)], []⟩ = num_Get.s0 n (fun (n8' : Int) (v31' : Int) => it (EmR.no _) (num_Get.C n) n (Code.go num_Get.code [1, 1, 1, 1, 0, 1, 0, 0]) (blockK 0 (seqK (EmR.no _) (num_Get.C n) n (Code.go num_Get.code [1, 1, 1, 1, 1]) (bodyK (num_Get.C n) f71 num_Get.rs))) m0 ⟨[(8, .dat (.int .i64) (n8')), (29, .dat (.slc (.int .u8)) v29), (30, .dat (.int .i64) v30), (31, .dat (.int .i64) (v31'))], []⟩) n8 v29 v30 v31 := by kernel_rfl
theorem num_Get.l0.eq (n : Nat) (v29 : (List Int)) (v30 : Int) : ∀ (m0 : Nat) (n8 : Int) (v31 : Int), it (EmR.no _) (num_Get.C n) n (Code.go num_Get.code [1, 1, 1, 1, 0, 1, 0, 0]) (blockK 0 (seqK (EmR.no _) (num_Get.C n) n (Code.go num_Get.code [1, 1, 1, 1, 1]) (bodyK (num_Get.C n) f71 num_Get.rs))) m0 ⟨[(8, .dat (.int .i64) n8), (29, .dat (.slc (.int .u8)) v29), (30, .dat (.int .i64) v30), (31, .dat (.int .i64) v31)], []⟩ = num_Get.l0 n v29 v30 m0 n8 v31
  | 0, _, _ => rfl
  | m0 + 1, n8, v31 =>
    (num_Get.l0.step n m0 n8 v29 v30 v31).trans (congr1 (fun k0 => num_Get.s0 n k0 n8 v29 v30 v31) (funext fun n8' => funext fun v31' => num_Get.l0.eq n v29 v30 m0 n8' v31'))
theorem num_Get.run0 (n : Nat) (x : pdens num_Get.ps) : Vi.run (num_Get.C n) n f71 num_Get.ps num_Get.rs x = num_Get.s n (fun (n8' : Int) (v29' : (List Int)) (v30' : Int) (v31' : Int) => it (EmR.no _) (num_Get.C n) n (Code.go num_Get.code [1, 1, 1, 1, 0, 1, 0, 0]) (blockK 0 (seqK (EmR.no _) (num_Get.C n) n (Code.go num_Get.code [1, 1, 1, 1, 1]) (bodyK (num_Get.C n) f71 num_Get.rs))) n ⟨[(8, .dat (.int .i64) (n8')), (29, .dat (.slc (.int .u8)) (v29')), (30, .dat (.int .i64) (v30')), (31, .dat (.int .i64) (v31'))], []⟩) x.1 x.2.1 x.2.2 := by kernel_rfl
theorem num_Get.eq (n : Nat) (x : pdens num_Get.ps) : Vi.run (num_Get.C n) n f71 num_Get.ps num_Get.rs x = num_Get n x.1 x.2.1 x.2.2 :=
  (num_Get.run0 n x).trans (congr1 (fun k0 => num_Get.s n k0 x.1 x.2.1 x.2.2) (funext fun n8' => funext fun v29' => funext fun v30' => funext fun v31' => num_Get.l0.eq n v29' v30' n n8' v31'))
theorem num_Get.sound (n : Nat) : SoundE prog 71 (num_Get.e n) :=
  soundE_of_run (C := num_Get.C n) (n := n) (num_Get.ok n) func71 (by kernel_rfl) (by kernel_rfl) (fun x r h => (num_Get.eq n x).trans h)

def fault_xid.rs : List RTy := [.data (.int .i64)]
def fault_xid.ps : List PTy := [.data (.slc (.int .u8))]
noncomputable def fault_xid.e (n : Nat) : Ent := ⟨fault_xid.ps, fault_xid.rs, fun x => fault_xid n x⟩
noncomputable def fault_xid.C (n : Nat) : Ctx := { tab := tab, fts := fts, pts := pts, Γ := lookO [(71, num_Get.e n)], Γc := lookO [], Γs := lookO [], Γm := lookO [], Γo := lookO [], ntmps := f67.ntmps, keep := Vi.look ([], []) [], pins := [] }
theorem fault_xid.ok (n : Nat) : CtxOk prog (fault_xid.C n) := ⟨types, ftsOk_, ptsOk_, (fns_cons (num_Get.sound n) fns_nil), cls_nil, sqs_nil, ems_nil, mixed, ons_nil⟩
theorem fault_xid.eq (n : Nat) (x : pdens fault_xid.ps) : Vi.run (fault_xid.C n) n f67 fault_xid.ps fault_xid.rs x = fault_xid n x := by kernel_rfl
theorem fault_xid.sound (n : Nat) : SoundE prog 67 (fault_xid.e n) :=
  soundE_of_run (C := fault_xid.C n) (n := n) (fault_xid.ok n) func67 (by kernel_rfl) (by kernel_rfl) (fun x r h => (fault_xid.eq n x).trans h)

def frame_Head.rs : List RTy := [.fresh (.int .u8), .data (.int .i64)]
def frame_Head.ps : List PTy := [.data (.int .i64), .data (.int .i64), .data (.slc (.int .u8))]
noncomputable def frame_Head.e (n : Nat) : Ent := ⟨frame_Head.ps, frame_Head.rs, fun x => frame_Head n x.1 x.2.1 x.2.2⟩
noncomputable def frame_Head.C (n : Nat) : Ctx := { tab := tab, fts := fts, pts := pts, Γ := lookO [(65, num_Right.e n), (66, num_Put.e n)], Γc := lookO [], Γs := lookO [], Γm := lookO [], Γo := lookO [], ntmps := f51.ntmps, keep := Vi.look ([], []) [], pins := [] }
theorem frame_Head.ok (n : Nat) : CtxOk prog (frame_Head.C n) := ⟨types, ftsOk_, ptsOk_, (fns_cons (num_Right.sound n) (fns_cons (num_Put.sound n) fns_nil)), cls_nil, sqs_nil, ems_nil, mixed, ons_nil⟩
theorem frame_Head.eq (n : Nat) (x : pdens frame_Head.ps) : Vi.run (frame_Head.C n) n f51 frame_Head.ps frame_Head.rs x = frame_Head n x.1 x.2.1 x.2.2 := by kernel_rfl
theorem frame_Head.sound (n : Nat) : SoundE prog 51 (frame_Head.e n) :=
  soundE_of_run (C := frame_Head.C n) (n := n) (frame_Head.ok n) func51 (by kernel_rfl) (by kernel_rfl) (fun x r h => (frame_Head.eq n x).trans h)

def fault_Reply.rs : List RTy := [.fresh (.int .u8)]
def fault_Reply.ps : List PTy := [.data TFault, .data (.slc (.int .u8))]
noncomputable def fault_Reply.e (n : Nat) : Ent := ⟨fault_Reply.ps, fault_Reply.rs, fun x => fault_Reply n x.1 x.2⟩
noncomputable def fault_Reply.C (n : Nat) : Ctx := { tab := tab, fts := fts, pts := pts, Γ := lookO [(51, frame_Head.e n), (65, num_Right.e n), (66, num_Put.e n), (67, fault_xid.e n)], Γc := lookO [], Γs := lookO [], Γm := lookO [], Γo := lookO [], ntmps := f36.ntmps, keep := Vi.look ([], []) [], pins := [] }
theorem fault_Reply.ok (n : Nat) : CtxOk prog (fault_Reply.C n) := ⟨types, ftsOk_, ptsOk_, (fns_cons (frame_Head.sound n) (fns_cons (num_Right.sound n) (fns_cons (num_Put.sound n) (fns_cons (fault_xid.sound n) fns_nil)))), cls_nil, sqs_nil, ems_nil, mixed, ons_nil⟩
theorem fault_Reply.eq (n : Nat) (x : pdens fault_Reply.ps) : Vi.run (fault_Reply.C n) n f36 fault_Reply.ps fault_Reply.rs x = fault_Reply n x.1 x.2 := by kernel_rfl
theorem fault_Reply.sound (n : Nat) : SoundE prog 36 (fault_Reply.e n) :=
  soundE_of_run (C := fault_Reply.C n) (n := n) (fault_Reply.ok n) func36 (by kernel_rfl) (by kernel_rfl) (fun x r h => (fault_Reply.eq n x).trans h)

def fault_Parse.rs : List RTy := [.data TFault, .fresh (.int .u8), .data .bool]
def fault_Parse.ps : List PTy := [.data (.slc (.int .u8))]
noncomputable def fault_Parse.e (n : Nat) : Ent := ⟨fault_Parse.ps, fault_Parse.rs, fun x => fault_Parse n x⟩
noncomputable def fault_Parse.C (n : Nat) : Ctx := { tab := tab, fts := fts, pts := pts, Γ := lookO [(38, fault_Of.e n), (46, slices_Clone_byte.e n), (71, num_Get.e n)], Γc := lookO [], Γs := lookO [], Γm := lookO [], Γo := lookO [], ntmps := f42.ntmps, keep := Vi.look ([], []) [], pins := [] }
theorem fault_Parse.ok (n : Nat) : CtxOk prog (fault_Parse.C n) := ⟨types, ftsOk_, ptsOk_, (fns_cons (fault_Of.sound n) (fns_cons (slices_Clone_byte.sound n) (fns_cons (num_Get.sound n) fns_nil))), cls_nil, sqs_nil, ems_nil, mixed, ons_nil⟩
theorem fault_Parse.eq (n : Nat) (x : pdens fault_Parse.ps) : Vi.run (fault_Parse.C n) n f42 fault_Parse.ps fault_Parse.rs x = fault_Parse n x := by kernel_rfl
theorem fault_Parse.sound (n : Nat) : SoundE prog 42 (fault_Parse.e n) :=
  soundE_of_run (C := fault_Parse.C n) (n := n) (fault_Parse.ok n) func42 (by kernel_rfl) (by kernel_rfl) (fun x r h => (fault_Parse.eq n x).trans h)

def bytes_Equal.rs : List RTy := [.data .bool]
def bytes_Equal.ps : List PTy := [.data (.slc (.int .u8)), .data (.slc (.int .u8))]
noncomputable def bytes_Equal.e (n : Nat) : Ent := ⟨bytes_Equal.ps, bytes_Equal.rs, fun x => some (bytes_Equal x.1 x.2)⟩
noncomputable def bytes_Equal.C (n : Nat) : Ctx := { tab := tab, fts := fts, pts := pts, Γ := lookO [], Γc := lookO [], Γs := lookO [], Γm := lookO [], Γo := lookO [], ntmps := f35.ntmps, keep := Vi.look ([], []) [], pins := [] }
theorem bytes_Equal.ok (n : Nat) : CtxOk prog (bytes_Equal.C n) := ⟨types, ftsOk_, ptsOk_, fns_nil, cls_nil, sqs_nil, ems_nil, mixed, ons_nil⟩
theorem bytes_Equal.eq (n : Nat) (x : pdens bytes_Equal.ps) : Vi.run (bytes_Equal.C n) n f35 bytes_Equal.ps bytes_Equal.rs x = some (bytes_Equal x.1 x.2) := by kernel_rfl
theorem bytes_Equal.sound (n : Nat) : SoundE prog 35 (bytes_Equal.e n) :=
  soundE_of_run (C := bytes_Equal.C n) (n := n) (bytes_Equal.ok n) func35 (by kernel_rfl) (by kernel_rfl) (fun x r h => (bytes_Equal.eq n x).trans h)

def fault_Name.rs : List RTy := [.data .str]
def fault_Name.ps : List PTy := [.data TFault]
noncomputable def fault_Name.e (n : Nat) : Ent := ⟨fault_Name.ps, fault_Name.rs, fun x => fault_Name x⟩
noncomputable def fault_Name.C (n : Nat) : Ctx := { tab := tab, fts := fts, pts := pts, Γ := lookO [], Γc := lookO [], Γs := lookO [], Γm := lookO [], Γo := lookO [], ntmps := f40.ntmps, keep := Vi.look ([], []) [], pins := [] }
theorem fault_Name.ok (n : Nat) : CtxOk prog (fault_Name.C n) := ⟨types, ftsOk_, ptsOk_, fns_nil, cls_nil, sqs_nil, ems_nil, mixed, ons_nil⟩
theorem fault_Name.eq (n : Nat) (x : pdens fault_Name.ps) : Vi.run (fault_Name.C n) n f40 fault_Name.ps fault_Name.rs x = fault_Name x := by kernel_rfl
theorem fault_Name.sound (n : Nat) : SoundE prog 40 (fault_Name.e n) :=
  soundE_of_run (C := fault_Name.C n) (n := n) (fault_Name.ok n) func40 (by kernel_rfl) (by kernel_rfl) (fun x r h => (fault_Name.eq n x).trans h)

def law19_awake.rs : List RTy := [.data .bool]
def law19_awake.ps : List PTy := []
noncomputable def law19_awake.e (n : Nat) : Ent := ⟨law19_awake.ps, law19_awake.rs, fun x => law19_awake n⟩
noncomputable def law19_awake.C (n : Nat) : Ctx := { tab := tab, fts := fts, pts := pts, Γ := lookO [(35, bytes_Equal.e n), (36, fault_Reply.e n), (38, fault_Of.e n), (40, fault_Name.e n), (42, fault_Parse.e n)], Γc := lookO [], Γs := lookO [], Γm := lookO [], Γo := lookO [], ntmps := f34.ntmps, keep := Vi.look ([], []) [], pins := [] }
theorem law19_awake.ok (n : Nat) : CtxOk prog (law19_awake.C n) := ⟨types, ftsOk_, ptsOk_, (fns_cons (bytes_Equal.sound n) (fns_cons (fault_Reply.sound n) (fns_cons (fault_Of.sound n) (fns_cons (fault_Name.sound n) (fns_cons (fault_Parse.sound n) fns_nil))))), cls_nil, sqs_nil, ems_nil, mixed, ons_nil⟩
theorem law19_awake.eq (n : Nat) (x : pdens law19_awake.ps) : Vi.run (law19_awake.C n) n f34 law19_awake.ps law19_awake.rs x = law19_awake n := by kernel_rfl
theorem law19_awake.sound (n : Nat) : SoundE prog 34 (law19_awake.e n) :=
  soundE_of_run (C := law19_awake.C n) (n := n) (law19_awake.ok n) func34 (by kernel_rfl) (by kernel_rfl) (fun x r h => (law19_awake.eq n x).trans h)

def ref01_Right.rs : List RTy := [.data .bool]
def ref01_Right.ps : List PTy := [.data (.int .i64), .data (.int .i64)]
noncomputable def ref01_Right.e (n : Nat) : Ent := ⟨ref01_Right.ps, ref01_Right.rs, fun x => some (ref01_Right x.1 x.2)⟩
noncomputable def ref01_Right.C (n : Nat) : Ctx := { tab := tab, fts := fts, pts := pts, Γ := lookO [], Γc := lookO [], Γs := lookO [], Γm := lookO [], Γo := lookO [], ntmps := f68.ntmps, keep := Vi.look ([], []) [], pins := [] }
theorem ref01_Right.ok (n : Nat) : CtxOk prog (ref01_Right.C n) := ⟨types, ftsOk_, ptsOk_, fns_nil, cls_nil, sqs_nil, ems_nil, mixed, ons_nil⟩
theorem ref01_Right.run0 (n : Nat) (x : pdens ref01_Right.ps) : Vi.run (ref01_Right.C n) n f68 ref01_Right.ps ref01_Right.rs x = ref01_Right.o x.1 x.2 := by kernel_rfl
theorem ref01_Right.eq (n : Nat) (x : pdens ref01_Right.ps) : Vi.run (ref01_Right.C n) n f68 ref01_Right.ps ref01_Right.rs x = some (ref01_Right x.1 x.2) := (ref01_Right.run0 n x).trans (ref01_Right.o_eq _ _)
theorem ref01_Right.sound (n : Nat) : SoundE prog 68 (ref01_Right.e n) :=
  soundE_of_run (C := ref01_Right.C n) (n := n) (ref01_Right.ok n) func68 (by kernel_rfl) (by kernel_rfl) (fun x r h => (ref01_Right.eq n x).trans h)

def ref01_Get.rs : List RTy := [.data (.int .i64), .data (.int .i64)]
def ref01_Get.ps : List PTy := [.data (.slc (.int .u8)), .data (.int .i64), .data (.int .i64)]
noncomputable def ref01_Get.e (n : Nat) : Ent := ⟨ref01_Get.ps, ref01_Get.rs, fun x => ref01_Get n x.1 x.2.1 x.2.2⟩
noncomputable def ref01_Get.C (n : Nat) : Ctx := { tab := tab, fts := fts, pts := pts, Γ := lookO [], Γc := lookO [], Γs := lookO [], Γm := lookO [], Γo := lookO [], ntmps := f69.ntmps, keep := Vi.look ([], []) [(7, ([0, 1, 2, 8, 9], []))], pins := [] }
theorem ref01_Get.ok (n : Nat) : CtxOk prog (ref01_Get.C n) := ⟨types, ftsOk_, ptsOk_, fns_nil, cls_nil, sqs_nil, ems_nil, mixed, ons_nil⟩
noncomputable def ref01_Get.code : Code := bodyOf f69
theorem ref01_Get.l0.step (n : Nat) (m0 : Nat) (b_1 : (List Int)) (at1_1 : Int) (size_1 : Int) (n8 : Int) (i : Int) : it (EmR.no _) (ref01_Get.C n) n (Code.go ref01_Get.code [1, 1, 1, 1, 0, 1, 0, 0]) (blockK 0 (seqK (EmR.no _) (ref01_Get.C n) n (Code.go ref01_Get.code [1, 1, 1, 1, 1]) (bodyK (ref01_Get.C n) f69 ref01_Get.rs))) (m0 + 1) ⟨[(0, .dat (.slc (.int .u8)) b_1), (1, .dat (.int .i64) at1_1), (2, .dat (.int .i64) size_1), (8, .dat (.int .i64) n8), (9, .dat (.int .i64) i)], []⟩ = ref01_Get.s0 n (fun (n8' : Int) (i' : Int) => it (EmR.no _) (ref01_Get.C n) n (Code.go ref01_Get.code [1, 1, 1, 1, 0, 1, 0, 0]) (blockK 0 (seqK (EmR.no _) (ref01_Get.C n) n (Code.go ref01_Get.code [1, 1, 1, 1, 1]) (bodyK (ref01_Get.C n) f69 ref01_Get.rs))) m0 ⟨[(0, .dat (.slc (.int .u8)) b_1), (1, .dat (.int .i64) at1_1), (2, .dat (.int .i64) size_1), (8, .dat (.int .i64) (n8')), (9, .dat (.int .i64) (i'))], []⟩) b_1 at1_1 size_1 n8 i := by kernel_rfl
theorem ref01_Get.l0.eq (n : Nat) (b_1 : (List Int)) (at1_1 : Int) (size_1 : Int) : ∀ (m0 : Nat) (n8 : Int) (i : Int), it (EmR.no _) (ref01_Get.C n) n (Code.go ref01_Get.code [1, 1, 1, 1, 0, 1, 0, 0]) (blockK 0 (seqK (EmR.no _) (ref01_Get.C n) n (Code.go ref01_Get.code [1, 1, 1, 1, 1]) (bodyK (ref01_Get.C n) f69 ref01_Get.rs))) m0 ⟨[(0, .dat (.slc (.int .u8)) b_1), (1, .dat (.int .i64) at1_1), (2, .dat (.int .i64) size_1), (8, .dat (.int .i64) n8), (9, .dat (.int .i64) i)], []⟩ = ref01_Get.l0 n b_1 at1_1 size_1 m0 n8 i
  | 0, _, _ => rfl
  | m0 + 1, n8, i =>
    (ref01_Get.l0.step n m0 b_1 at1_1 size_1 n8 i).trans (congr1 (fun k0 => ref01_Get.s0 n k0 b_1 at1_1 size_1 n8 i) (funext fun n8' => funext fun i' => ref01_Get.l0.eq n b_1 at1_1 size_1 m0 n8' i'))
theorem ref01_Get.run0 (n : Nat) (x : pdens ref01_Get.ps) : Vi.run (ref01_Get.C n) n f69 ref01_Get.ps ref01_Get.rs x = ref01_Get.s n (fun (b_1' : (List Int)) (at1_1' : Int) (size_1' : Int) (n8' : Int) (i' : Int) => it (EmR.no _) (ref01_Get.C n) n (Code.go ref01_Get.code [1, 1, 1, 1, 0, 1, 0, 0]) (blockK 0 (seqK (EmR.no _) (ref01_Get.C n) n (Code.go ref01_Get.code [1, 1, 1, 1, 1]) (bodyK (ref01_Get.C n) f69 ref01_Get.rs))) n ⟨[(0, .dat (.slc (.int .u8)) (b_1')), (1, .dat (.int .i64) (at1_1')), (2, .dat (.int .i64) (size_1')), (8, .dat (.int .i64) (n8')), (9, .dat (.int .i64) (i'))], []⟩) x.1 x.2.1 x.2.2 := by kernel_rfl
theorem ref01_Get.eq (n : Nat) (x : pdens ref01_Get.ps) : Vi.run (ref01_Get.C n) n f69 ref01_Get.ps ref01_Get.rs x = ref01_Get n x.1 x.2.1 x.2.2 :=
  (ref01_Get.run0 n x).trans (congr1 (fun k0 => ref01_Get.s n k0 x.1 x.2.1 x.2.2) (funext fun b_1' => funext fun at1_1' => funext fun size_1' => funext fun n8' => funext fun i' => ref01_Get.l0.eq n b_1' at1_1' size_1' n n8' i'))
theorem ref01_Get.sound (n : Nat) : SoundE prog 69 (ref01_Get.e n) :=
  soundE_of_run (C := ref01_Get.C n) (n := n) (ref01_Get.ok n) func69 (by kernel_rfl) (by kernel_rfl) (fun x r h => (ref01_Get.eq n x).trans h)

def ref01_Put.rs : List RTy := [.fresh (.int .u8)]
def ref01_Put.ps : List PTy := [.data (.slc (.int .u8)), .data (.int .i64), .data (.int .i64)]
noncomputable def ref01_Put.e (n : Nat) : Ent := ⟨ref01_Put.ps, ref01_Put.rs, fun x => ref01_Put n x.1 x.2.1 x.2.2⟩
noncomputable def ref01_Put.C (n : Nat) : Ctx := { tab := tab, fts := fts, pts := pts, Γ := lookO [(68, ref01_Right.e n)], Γc := lookO [], Γs := lookO [], Γm := lookO [], Γo := lookO [], ntmps := f70.ntmps, keep := Vi.look ([], []) [(5, ([1, 7, 8], []))], pins := [] }
theorem ref01_Put.ok (n : Nat) : CtxOk prog (ref01_Put.C n) := ⟨types, ftsOk_, ptsOk_, (fns_cons (ref01_Right.sound n) fns_nil), cls_nil, sqs_nil, ems_nil, mixed, ons_nil⟩
noncomputable def ref01_Put.code : Code := bodyOf f70
theorem ref01_Put.l0.step (n : Nat) (m0 : Nat) (n1_1 : Int) (out : (List Int)) (i : Int) : it (EmR.no _) (ref01_Put.C n) n (Code.go ref01_Put.code [1, 1, 1, 0, 1, 0, 0]) (blockK 0 (seqK (EmR.no _) (ref01_Put.C n) n (Code.go ref01_Put.code [1, 1, 1, 1]) (bodyK (ref01_Put.C n) f70 ref01_Put.rs))) (m0 + 1) ⟨[(1, .dat (.int .i64) n1_1), (7, .lst (.tip 100007 0) (.int .u8) out), (8, .dat (.int .i64) i)], [(100007, .tok 0)]⟩ = ref01_Put.s0 n (fun (out' : (List Int)) (i' : Int) => it (EmR.no _) (ref01_Put.C n) n (Code.go ref01_Put.code [1, 1, 1, 0, 1, 0, 0]) (blockK 0 (seqK (EmR.no _) (ref01_Put.C n) n (Code.go ref01_Put.code [1, 1, 1, 1]) (bodyK (ref01_Put.C n) f70 ref01_Put.rs))) m0 ⟨[(1, .dat (.int .i64) n1_1), (7, .lst (.tip 100007 0) (.int .u8) (out')), (8, .dat (.int .i64) (i'))], [(100007, .tok 0)]⟩) n1_1 out i := by kernel_rfl
theorem ref01_Put.l0.eq (n : Nat) (n1_1 : Int) : ∀ (m0 : Nat) (out : (List Int)) (i : Int), it (EmR.no _) (ref01_Put.C n) n (Code.go ref01_Put.code [1, 1, 1, 0, 1, 0, 0]) (blockK 0 (seqK (EmR.no _) (ref01_Put.C n) n (Code.go ref01_Put.code [1, 1, 1, 1]) (bodyK (ref01_Put.C n) f70 ref01_Put.rs))) m0 ⟨[(1, .dat (.int .i64) n1_1), (7, .lst (.tip 100007 0) (.int .u8) out), (8, .dat (.int .i64) i)], [(100007, .tok 0)]⟩ = ref01_Put.l0 n n1_1 m0 out i
  | 0, _, _ => rfl
  | m0 + 1, out, i =>
    (ref01_Put.l0.step n m0 n1_1 out i).trans (congr1 (fun k0 => ref01_Put.s0 n k0 n1_1 out i) (funext fun out' => funext fun i' => ref01_Put.l0.eq n n1_1 m0 out' i'))
theorem ref01_Put.run0 (n : Nat) (x : pdens ref01_Put.ps) : Vi.run (ref01_Put.C n) n f70 ref01_Put.ps ref01_Put.rs x = ref01_Put.s n (fun (n1_1' : Int) (out' : (List Int)) (i' : Int) => it (EmR.no _) (ref01_Put.C n) n (Code.go ref01_Put.code [1, 1, 1, 0, 1, 0, 0]) (blockK 0 (seqK (EmR.no _) (ref01_Put.C n) n (Code.go ref01_Put.code [1, 1, 1, 1]) (bodyK (ref01_Put.C n) f70 ref01_Put.rs))) n ⟨[(1, .dat (.int .i64) (n1_1')), (7, .lst (.tip 100007 0) (.int .u8) (out')), (8, .dat (.int .i64) (i'))], [(100007, .tok 0)]⟩) x.1 x.2.1 x.2.2 := by kernel_rfl
theorem ref01_Put.eq (n : Nat) (x : pdens ref01_Put.ps) : Vi.run (ref01_Put.C n) n f70 ref01_Put.ps ref01_Put.rs x = ref01_Put n x.1 x.2.1 x.2.2 :=
  (ref01_Put.run0 n x).trans (congr1 (fun k0 => ref01_Put.s n k0 x.1 x.2.1 x.2.2) (funext fun n1_1' => funext fun out' => funext fun i' => ref01_Put.l0.eq n n1_1' n out' i'))
theorem ref01_Put.sound (n : Nat) : SoundE prog 70 (ref01_Put.e n) :=
  soundE_of_run (C := ref01_Put.C n) (n := n) (ref01_Put.ok n) func70 (by kernel_rfl) (by kernel_rfl) (fun x r h => (ref01_Put.eq n x).trans h)

def ref16_Head.rs : List RTy := [.fresh (.int .u8), .data (.int .i64)]
def ref16_Head.ps : List PTy := [.data (.int .i64), .data (.int .i64), .data (.slc (.int .u8))]
noncomputable def ref16_Head.e (n : Nat) : Ent := ⟨ref16_Head.ps, ref16_Head.rs, fun x => ref16_Head n x.1 x.2.1 x.2.2⟩
noncomputable def ref16_Head.C (n : Nat) : Ctx := { tab := tab, fts := fts, pts := pts, Γ := lookO [(68, ref01_Right.e n), (70, ref01_Put.e n)], Γc := lookO [], Γs := lookO [], Γm := lookO [], Γo := lookO [], ntmps := f52.ntmps, keep := Vi.look ([], []) [], pins := [] }
theorem ref16_Head.ok (n : Nat) : CtxOk prog (ref16_Head.C n) := ⟨types, ftsOk_, ptsOk_, (fns_cons (ref01_Right.sound n) (fns_cons (ref01_Put.sound n) fns_nil)), cls_nil, sqs_nil, ems_nil, mixed, ons_nil⟩
theorem ref16_Head.eq (n : Nat) (x : pdens ref16_Head.ps) : Vi.run (ref16_Head.C n) n f52 ref16_Head.ps ref16_Head.rs x = ref16_Head n x.1 x.2.1 x.2.2 := by kernel_rfl
theorem ref16_Head.sound (n : Nat) : SoundE prog 52 (ref16_Head.e n) :=
  soundE_of_run (C := ref16_Head.C n) (n := n) (ref16_Head.ok n) func52 (by kernel_rfl) (by kernel_rfl) (fun x r h => (ref16_Head.eq n x).trans h)

def ref19_Reply.rs : List RTy := [.fresh (.int .u8)]
def ref19_Reply.ps : List PTy := [.data TFault, .data (.slc (.int .u8))]
noncomputable def ref19_Reply.e (n : Nat) : Ent := ⟨ref19_Reply.ps, ref19_Reply.rs, fun x => ref19_Reply n x.1 x.2⟩
noncomputable def ref19_Reply.C (n : Nat) : Ctx := { tab := tab, fts := fts, pts := pts, Γ := lookO [(52, ref16_Head.e n), (68, ref01_Right.e n), (69, ref01_Get.e n), (70, ref01_Put.e n)], Γc := lookO [], Γs := lookO [], Γm := lookO [], Γo := lookO [], ntmps := f37.ntmps, keep := Vi.look ([], []) [], pins := [] }
theorem ref19_Reply.ok (n : Nat) : CtxOk prog (ref19_Reply.C n) := ⟨types, ftsOk_, ptsOk_, (fns_cons (ref16_Head.sound n) (fns_cons (ref01_Right.sound n) (fns_cons (ref01_Get.sound n) (fns_cons (ref01_Put.sound n) fns_nil)))), cls_nil, sqs_nil, ems_nil, mixed, ons_nil⟩
theorem ref19_Reply.eq (n : Nat) (x : pdens ref19_Reply.ps) : Vi.run (ref19_Reply.C n) n f37 ref19_Reply.ps ref19_Reply.rs x = ref19_Reply n x.1 x.2 := by kernel_rfl
theorem ref19_Reply.sound (n : Nat) : SoundE prog 37 (ref19_Reply.e n) :=
  soundE_of_run (C := ref19_Reply.C n) (n := n) (ref19_Reply.ok n) func37 (by kernel_rfl) (by kernel_rfl) (fun x r h => (ref19_Reply.eq n x).trans h)

def ref19_Of.rs : List RTy := [.data TFault]
def ref19_Of.ps : List PTy := [.data (.int .i64), .data (.int .i64)]
noncomputable def ref19_Of.e (n : Nat) : Ent := ⟨ref19_Of.ps, ref19_Of.rs, fun x => some (ref19_Of x.1 x.2)⟩
noncomputable def ref19_Of.C (n : Nat) : Ctx := { tab := tab, fts := fts, pts := pts, Γ := lookO [], Γc := lookO [], Γs := lookO [], Γm := lookO [], Γo := lookO [], ntmps := f39.ntmps, keep := Vi.look ([], []) [], pins := [] }
theorem ref19_Of.ok (n : Nat) : CtxOk prog (ref19_Of.C n) := ⟨types, ftsOk_, ptsOk_, fns_nil, cls_nil, sqs_nil, ems_nil, mixed, ons_nil⟩
theorem ref19_Of.eq (n : Nat) (x : pdens ref19_Of.ps) : Vi.run (ref19_Of.C n) n f39 ref19_Of.ps ref19_Of.rs x = some (ref19_Of x.1 x.2) := by kernel_rfl
theorem ref19_Of.sound (n : Nat) : SoundE prog 39 (ref19_Of.e n) :=
  soundE_of_run (C := ref19_Of.C n) (n := n) (ref19_Of.ok n) func39 (by kernel_rfl) (by kernel_rfl) (fun x r h => (ref19_Of.eq n x).trans h)

def ref19_Name.rs : List RTy := [.data .str]
def ref19_Name.ps : List PTy := [.data TFault]
noncomputable def ref19_Name.e (n : Nat) : Ent := ⟨ref19_Name.ps, ref19_Name.rs, fun x => some (ref19_Name x)⟩
noncomputable def ref19_Name.C (n : Nat) : Ctx := { tab := tab, fts := fts, pts := pts, Γ := lookO [], Γc := lookO [], Γs := lookO [], Γm := lookO [], Γo := lookO [], ntmps := f41.ntmps, keep := Vi.look ([], []) [], pins := [] }
theorem ref19_Name.ok (n : Nat) : CtxOk prog (ref19_Name.C n) := ⟨types, ftsOk_, ptsOk_, fns_nil, cls_nil, sqs_nil, ems_nil, mixed, ons_nil⟩
theorem ref19_Name.run0 (n : Nat) (x : pdens ref19_Name.ps) : Vi.run (ref19_Name.C n) n f41 ref19_Name.ps ref19_Name.rs x = ref19_Name.o x := by kernel_rfl
theorem ref19_Name.eq (n : Nat) (x : pdens ref19_Name.ps) : Vi.run (ref19_Name.C n) n f41 ref19_Name.ps ref19_Name.rs x = some (ref19_Name x) := (ref19_Name.run0 n x).trans (ref19_Name.o_eq _)
theorem ref19_Name.sound (n : Nat) : SoundE prog 41 (ref19_Name.e n) :=
  soundE_of_run (C := ref19_Name.C n) (n := n) (ref19_Name.ok n) func41 (by kernel_rfl) (by kernel_rfl) (fun x r h => (ref19_Name.eq n x).trans h)

def law19_FaultReplies.rs : List RTy := [.data .bool]
def law19_FaultReplies.ps : List PTy := [.data TFault, .data (.slc (.int .u8))]
noncomputable def law19_FaultReplies.e (n : Nat) : Ent := ⟨law19_FaultReplies.ps, law19_FaultReplies.rs, fun x => law19_FaultReplies n x.1 x.2⟩
noncomputable def law19_FaultReplies.C (n : Nat) : Ctx := { tab := tab, fts := fts, pts := pts, Γ := lookO [(34, law19_awake.e n), (35, bytes_Equal.e n), (36, fault_Reply.e n), (37, ref19_Reply.e n), (38, fault_Of.e n), (39, ref19_Of.e n), (40, fault_Name.e n), (41, ref19_Name.e n)], Γc := lookO [], Γs := lookO [], Γm := lookO [], Γo := lookO [], ntmps := f6.ntmps, keep := Vi.look ([], []) [], pins := [] }
theorem law19_FaultReplies.ok (n : Nat) : CtxOk prog (law19_FaultReplies.C n) := ⟨types, ftsOk_, ptsOk_, (fns_cons (law19_awake.sound n) (fns_cons (bytes_Equal.sound n) (fns_cons (fault_Reply.sound n) (fns_cons (ref19_Reply.sound n) (fns_cons (fault_Of.sound n) (fns_cons (ref19_Of.sound n) (fns_cons (fault_Name.sound n) (fns_cons (ref19_Name.sound n) fns_nil)))))))), cls_nil, sqs_nil, ems_nil, mixed, ons_nil⟩
theorem law19_FaultReplies.eq (n : Nat) (x : pdens law19_FaultReplies.ps) : Vi.run (law19_FaultReplies.C n) n f6 law19_FaultReplies.ps law19_FaultReplies.rs x = law19_FaultReplies n x.1 x.2 := by kernel_rfl
theorem law19_FaultReplies.sound (n : Nat) : SoundE prog 6 (law19_FaultReplies.e n) :=
  soundE_of_run (C := law19_FaultReplies.C n) (n := n) (law19_FaultReplies.ok n) func6 (by kernel_rfl) (by kernel_rfl) (fun x r h => (law19_FaultReplies.eq n x).trans h)
def law19_FaultReplies.g (n : Nat) (x : pdens (law19_FaultReplies.τs.map PTy.data)) : Option Bool := law19_FaultReplies n x.1 x.2
theorem law19_FaultReplies.soundN (n : Nat) : SoundE prog 6 ⟨law19_FaultReplies.τs.map PTy.data, [.data .bool], law19_FaultReplies.g n⟩ := law19_FaultReplies.sound n

def ref19_Parse.rs : List RTy := [.data TFault, .fresh (.int .u8), .data .bool]
def ref19_Parse.ps : List PTy := [.data (.slc (.int .u8))]
noncomputable def ref19_Parse.e (n : Nat) : Ent := ⟨ref19_Parse.ps, ref19_Parse.rs, fun x => ref19_Parse n x⟩
noncomputable def ref19_Parse.C (n : Nat) : Ctx := { tab := tab, fts := fts, pts := pts, Γ := lookO [(39, ref19_Of.e n), (69, ref01_Get.e n)], Γc := lookO [], Γs := lookO [], Γm := lookO [], Γo := lookO [], ntmps := f43.ntmps, keep := Vi.look ([], []) [], pins := [] }
theorem ref19_Parse.ok (n : Nat) : CtxOk prog (ref19_Parse.C n) := ⟨types, ftsOk_, ptsOk_, (fns_cons (ref19_Of.sound n) (fns_cons (ref01_Get.sound n) fns_nil)), cls_nil, sqs_nil, ems_nil, mixed, ons_nil⟩
theorem ref19_Parse.eq (n : Nat) (x : pdens ref19_Parse.ps) : Vi.run (ref19_Parse.C n) n f43 ref19_Parse.ps ref19_Parse.rs x = ref19_Parse n x := by kernel_rfl
theorem ref19_Parse.sound (n : Nat) : SoundE prog 43 (ref19_Parse.e n) :=
  soundE_of_run (C := ref19_Parse.C n) (n := n) (ref19_Parse.ok n) func43 (by kernel_rfl) (by kernel_rfl) (fun x r h => (ref19_Parse.eq n x).trans h)

def law19_FaultParses.rs : List RTy := [.data .bool]
def law19_FaultParses.ps : List PTy := [.data (.slc (.int .u8))]
noncomputable def law19_FaultParses.e (n : Nat) : Ent := ⟨law19_FaultParses.ps, law19_FaultParses.rs, fun x => law19_FaultParses n x⟩
noncomputable def law19_FaultParses.C (n : Nat) : Ctx := { tab := tab, fts := fts, pts := pts, Γ := lookO [(34, law19_awake.e n), (35, bytes_Equal.e n), (42, fault_Parse.e n), (43, ref19_Parse.e n)], Γc := lookO [], Γs := lookO [], Γm := lookO [], Γo := lookO [], ntmps := f7.ntmps, keep := Vi.look ([], []) [], pins := [] }
theorem law19_FaultParses.ok (n : Nat) : CtxOk prog (law19_FaultParses.C n) := ⟨types, ftsOk_, ptsOk_, (fns_cons (law19_awake.sound n) (fns_cons (bytes_Equal.sound n) (fns_cons (fault_Parse.sound n) (fns_cons (ref19_Parse.sound n) fns_nil)))), cls_nil, sqs_nil, ems_nil, mixed, ons_nil⟩
theorem law19_FaultParses.eq (n : Nat) (x : pdens law19_FaultParses.ps) : Vi.run (law19_FaultParses.C n) n f7 law19_FaultParses.ps law19_FaultParses.rs x = law19_FaultParses n x := by kernel_rfl
theorem law19_FaultParses.sound (n : Nat) : SoundE prog 7 (law19_FaultParses.e n) :=
  soundE_of_run (C := law19_FaultParses.C n) (n := n) (law19_FaultParses.ok n) func7 (by kernel_rfl) (by kernel_rfl) (fun x r h => (law19_FaultParses.eq n x).trans h)
def law19_FaultParses.g (n : Nat) (x : pdens (law19_FaultParses.τs.map PTy.data)) : Option Bool := law19_FaultParses n x
theorem law19_FaultParses.soundN (n : Nat) : SoundE prog 7 ⟨law19_FaultParses.τs.map PTy.data, [.data .bool], law19_FaultParses.g n⟩ := law19_FaultParses.sound n

def frame_says.rs : List RTy := [.data (.int .i64), .data .bool]
def frame_says.ps : List PTy := [.data (.slc (.int .u8))]
noncomputable def frame_says.e (n : Nat) : Ent := ⟨frame_says.ps, frame_says.rs, fun x => frame_says n x⟩
noncomputable def frame_says.C (n : Nat) : Ctx := { tab := tab, fts := fts, pts := pts, Γ := lookO [(71, num_Get.e n)], Γc := lookO [], Γs := lookO [], Γm := lookO [], Γo := lookO [], ntmps := f81.ntmps, keep := Vi.look ([], []) [], pins := [] }
theorem frame_says.ok (n : Nat) : CtxOk prog (frame_says.C n) := ⟨types, ftsOk_, ptsOk_, (fns_cons (num_Get.sound n) fns_nil), cls_nil, sqs_nil, ems_nil, mixed, ons_nil⟩
theorem frame_says.eq (n : Nat) (x : pdens frame_says.ps) : Vi.run (frame_says.C n) n f81 frame_says.ps frame_says.rs x = frame_says n x := by kernel_rfl
theorem frame_says.sound (n : Nat) : SoundE prog 81 (frame_says.e n) :=
  soundE_of_run (C := frame_says.C n) (n := n) (frame_says.ok n) func81 (by kernel_rfl) (by kernel_rfl) (fun x r h => (frame_says.eq n x).trans h)

def frame_pieces_1.es : List Ty := [(.slc (.int .u8)), (.slc (.int .u8))]
def frame_pieces_1.τ : Ty := (.slc (.int .u8))
noncomputable def frame_pieces_1.e (n : Nat) : Oq := ⟨frame_pieces_1.es, frame_pieces_1.τ, fun y => frame_pieces_1 n y⟩
noncomputable def frame_pieces_1.C (n : Nat) : Ctx := { tab := tab, fts := fts, pts := pts, Γ := lookO [(81, frame_says.e n)], Γc := lookO [], Γs := lookO [], Γm := lookO [], Γo := lookO [], ntmps := f80.ntmps, keep := Vi.look ([], []) [(1, ([0, 1, 3, 4], [1]))], pins := [] }
theorem frame_pieces_1.ok (n : Nat) : CtxOk prog (frame_pieces_1.C n) := ⟨types, ftsOk_, ptsOk_, (fns_cons (frame_says.sound n) fns_nil), cls_nil, sqs_nil, ems_nil, mixed, ons_nil⟩
noncomputable def frame_pieces_1.code : Code := bodyOf f80
theorem frame_pieces_1.l0.step (n : Nat) (m0 : Nat) (n3 : Int) (ok : Bool) (v1 : (List Int)) : it (EmR.seq frame_pieces_1.es) (frame_pieces_1.C n) n (Code.go frame_pieces_1.code [1, 0, 0]) (blockK 0 (bodyKQ frame_pieces_1.es)) (m0 + 1) ⟨[(0, .yld [(.slc (.int .u8)), (.slc (.int .u8))]), (1, .ptr 1 0 (.slc (.int .u8)) []), (3, .dat (.int .i64) n3), (4, .dat .bool ok)], [(1, .box 0 false (.dat (.slc (.int .u8)) v1))]⟩ = frame_pieces_1.s0 n (fun (n3' : Int) (ok' : Bool) (v1' : (List Int)) => it (EmR.seq frame_pieces_1.es) (frame_pieces_1.C n) n (Code.go frame_pieces_1.code [1, 0, 0]) (blockK 0 (bodyKQ frame_pieces_1.es)) m0 ⟨[(0, .yld [(.slc (.int .u8)), (.slc (.int .u8))]), (1, .ptr 1 0 (.slc (.int .u8)) []), (3, .dat (.int .i64) (n3')), (4, .dat .bool (ok'))], [(1, .box 0 false (.dat (.slc (.int .u8)) (v1')))]⟩) n3 ok v1 := by kernel_rfl
theorem frame_pieces_1.l0.eq (n : Nat) : ∀ (m0 : Nat) (n3 : Int) (ok : Bool) (v1 : (List Int)), it (EmR.seq frame_pieces_1.es) (frame_pieces_1.C n) n (Code.go frame_pieces_1.code [1, 0, 0]) (blockK 0 (bodyKQ frame_pieces_1.es)) m0 ⟨[(0, .yld [(.slc (.int .u8)), (.slc (.int .u8))]), (1, .ptr 1 0 (.slc (.int .u8)) []), (3, .dat (.int .i64) n3), (4, .dat .bool ok)], [(1, .box 0 false (.dat (.slc (.int .u8)) v1))]⟩ = frame_pieces_1.l0 n m0 n3 ok v1
  | 0, _, _, _ => rfl
  | m0 + 1, n3, ok, v1 =>
    (frame_pieces_1.l0.step n m0 n3 ok v1).trans (congr1 (fun k0 => frame_pieces_1.s0 n k0 n3 ok v1) (funext fun n3' => funext fun ok' => funext fun v1' => frame_pieces_1.l0.eq n m0 n3' ok' v1'))
theorem frame_pieces_1.run0 (n : Nat) (y : Ty.den frame_pieces_1.τ) : Vi.runO (frame_pieces_1.C n) n f80 frame_pieces_1.es frame_pieces_1.τ y = frame_pieces_1.s n (fun (n3' : Int) (ok' : Bool) (v1' : (List Int)) => it (EmR.seq frame_pieces_1.es) (frame_pieces_1.C n) n (Code.go frame_pieces_1.code [1, 0, 0]) (blockK 0 (bodyKQ frame_pieces_1.es)) n ⟨[(0, .yld [(.slc (.int .u8)), (.slc (.int .u8))]), (1, .ptr 1 0 (.slc (.int .u8)) []), (3, .dat (.int .i64) (n3')), (4, .dat .bool (ok'))], [(1, .box 0 false (.dat (.slc (.int .u8)) (v1')))]⟩) y := by kernel_rfl
theorem frame_pieces_1.eq (n : Nat) (y : Ty.den frame_pieces_1.τ) : Vi.runO (frame_pieces_1.C n) n f80 frame_pieces_1.es frame_pieces_1.τ y = frame_pieces_1 n y :=
  (frame_pieces_1.run0 n y).trans (congr1 (fun k0 => frame_pieces_1.s n k0 y) (funext fun n3' => funext fun ok' => funext fun v1' => frame_pieces_1.l0.eq n n n3' ok' v1'))
theorem frame_pieces_1.sound (n : Nat) : SoundO prog 80 (frame_pieces_1.e n) :=
  soundO_of_run (C := frame_pieces_1.C n) (n := n) (frame_pieces_1.ok n) func80 (by kernel_rfl) (by kernel_rfl) (fun y r h => (frame_pieces_1.eq n y).trans h)

def frame_pieces.rs : List RTy := [.oncer [(.slc (.int .u8)), (.slc (.int .u8))]]
def frame_pieces.ps : List PTy := [.data (.slc (.int .u8))]
noncomputable def frame_pieces.e (n : Nat) : Ent := ⟨frame_pieces.ps, frame_pieces.rs, fun x => frame_pieces n x⟩
noncomputable def frame_pieces.C (n : Nat) : Ctx := { tab := tab, fts := fts, pts := pts, Γ := lookO [], Γc := lookO [], Γs := lookO [], Γm := lookO [], Γo := lookO [(80, frame_pieces_1.e n)], ntmps := f74.ntmps, keep := Vi.look ([], []) [], pins := [] }
theorem frame_pieces.ok (n : Nat) : CtxOk prog (frame_pieces.C n) := ⟨types, ftsOk_, ptsOk_, fns_nil, cls_nil, sqs_nil, ems_nil, mixed, (ons_cons (frame_pieces_1.sound n) ons_nil)⟩
theorem frame_pieces.eq (n : Nat) (x : pdens frame_pieces.ps) : Vi.run (frame_pieces.C n) n f74 frame_pieces.ps frame_pieces.rs x = frame_pieces n x := by kernel_rfl
theorem frame_pieces.sound (n : Nat) : SoundE prog 74 (frame_pieces.e n) :=
  soundE_of_run (C := frame_pieces.C n) (n := n) (frame_pieces.ok n) func74 (by kernel_rfl) (by kernel_rfl) (fun x r h => (frame_pieces.eq n x).trans h)

def frame_Split_1.es : List Ty := [(.slc (.int .u8))]
def frame_Split_1.ps : List PTy := []
def frame_Split_1.caps : List PTy := [.cptr (.slc (.int .u8))]
noncomputable def frame_Split_1.e (n : Nat) : Sq := ⟨frame_Split_1.es, frame_Split_1.ps, frame_Split_1.caps, fun x c => frame_Split_1 n c⟩
noncomputable def frame_Split_1.C (n : Nat) : Ctx := { tab := tab, fts := fts, pts := pts, Γ := lookO [(46, slices_Clone_byte.e n), (74, frame_pieces.e n)], Γc := lookO [], Γs := lookO [], Γm := lookO [], Γo := lookO [], ntmps := f73.ntmps, keep := Vi.look ([], []) [(100002, ([2], [2]))], pins := [] }
theorem frame_Split_1.ok (n : Nat) : CtxOk prog (frame_Split_1.C n) := ⟨types, ftsOk_, ptsOk_, (fns_cons (slices_Clone_byte.sound n) (fns_cons (frame_pieces.sound n) fns_nil)), cls_nil, sqs_nil, ems_nil, mixed, ons_nil⟩
noncomputable def frame_Split_1.code : Code := bodyOf f73
theorem frame_Split_1.l0.stepz (n : Nat) : itS (EmR.seq frame_Split_1.es) (frame_Split_1.C n) n (Code.go frame_Split_1.code [1, 1, 0]) [(.slc (.int .u8)), (.slc (.int .u8))] [(2, .ptr 2 0 .unit [])] (blockK 0 (bodyKQ frame_Split_1.es)) [] [(2, .box 0 false (.yld [(.slc (.int .u8))]))] = frame_Split_1.z0 n := by kernel_rfl
theorem frame_Split_1.l0.step (n : Nat) (xs : (List ((List Int) × (List Int)))) (x : ((List Int) × (List Int))) : itS (EmR.seq frame_Split_1.es) (frame_Split_1.C n) n (Code.go frame_Split_1.code [1, 1, 0]) [(.slc (.int .u8)), (.slc (.int .u8))] [(2, .ptr 2 0 .unit [])] (blockK 0 (bodyKQ frame_Split_1.es)) (x :: xs) [(2, .box 0 false (.yld [(.slc (.int .u8))]))] = frame_Split_1.s0 n (itS (EmR.seq frame_Split_1.es) (frame_Split_1.C n) n (Code.go frame_Split_1.code [1, 1, 0]) [(.slc (.int .u8)), (.slc (.int .u8))] [(2, .ptr 2 0 .unit [])] (blockK 0 (bodyKQ frame_Split_1.es)) xs [(2, .box 0 false (.yld [(.slc (.int .u8))]))]) x := by kernel_rfl
theorem frame_Split_1.l0.eq (n : Nat) : ∀ (xs : (List ((List Int) × (List Int)))), itS (EmR.seq frame_Split_1.es) (frame_Split_1.C n) n (Code.go frame_Split_1.code [1, 1, 0]) [(.slc (.int .u8)), (.slc (.int .u8))] [(2, .ptr 2 0 .unit [])] (blockK 0 (bodyKQ frame_Split_1.es)) xs [(2, .box 0 false (.yld [(.slc (.int .u8))]))] = frame_Split_1.l0 n xs
  | [] => frame_Split_1.l0.stepz n
  | x :: xs => (frame_Split_1.l0.step n xs x).trans (congr1 (fun k0 => frame_Split_1.s0 n k0  x) (frame_Split_1.l0.eq n xs))
theorem frame_Split_1.run0 (n : Nat) (x : pdens frame_Split_1.ps) (c : pdens frame_Split_1.caps) : Vi.runQ (frame_Split_1.C n) n f73 frame_Split_1.ps frame_Split_1.es frame_Split_1.caps x c = frame_Split_1.s n (fun (xs' : (List ((List Int) × (List Int)))) => itS (EmR.seq frame_Split_1.es) (frame_Split_1.C n) n (Code.go frame_Split_1.code [1, 1, 0]) [(.slc (.int .u8)), (.slc (.int .u8))] [(2, .ptr 2 0 .unit [])] (blockK 0 (bodyKQ frame_Split_1.es)) xs' [(2, .box 0 false (.yld [(.slc (.int .u8))]))]) c := by kernel_rfl
theorem frame_Split_1.eq (n : Nat) (x : pdens frame_Split_1.ps) (c : pdens frame_Split_1.caps) : Vi.runQ (frame_Split_1.C n) n f73 frame_Split_1.ps frame_Split_1.es frame_Split_1.caps x c = frame_Split_1 n c :=
  (frame_Split_1.run0 n x c).trans (congr1 (fun k0 => frame_Split_1.s n k0 c) (funext fun xs' => frame_Split_1.l0.eq n xs'))
theorem frame_Split_1.sound (n : Nat) : SoundQ prog 73 (frame_Split_1.e n) :=
  soundQ_of_run (C := frame_Split_1.C n) (n := n) (frame_Split_1.ok n) func73 (by kernel_rfl) (by kernel_rfl) (fun x c r h => (frame_Split_1.eq n x c).trans h)

def frame_Split.rs : List RTy := [.seqr [(.slc (.int .u8))]]
def frame_Split.ps : List PTy := [.data (.slc (.int .u8))]
noncomputable def frame_Split.e (n : Nat) : Ent := ⟨frame_Split.ps, frame_Split.rs, fun x => frame_Split n x⟩
noncomputable def frame_Split.C (n : Nat) : Ctx := { tab := tab, fts := fts, pts := pts, Γ := lookO [], Γc := lookO [], Γs := lookO [(73, frame_Split_1.e n)], Γm := lookO [], Γo := lookO [], ntmps := f53.ntmps, keep := Vi.look ([], []) [], pins := [] }
theorem frame_Split.ok (n : Nat) : CtxOk prog (frame_Split.C n) := ⟨types, ftsOk_, ptsOk_, fns_nil, cls_nil, (sqs_cons (frame_Split_1.sound n) sqs_nil), ems_nil, mixed, ons_nil⟩
theorem frame_Split.eq (n : Nat) (x : pdens frame_Split.ps) : Vi.run (frame_Split.C n) n f53 frame_Split.ps frame_Split.rs x = frame_Split n x := by kernel_rfl
theorem frame_Split.sound (n : Nat) : SoundE prog 53 (frame_Split.e n) :=
  soundE_of_run (C := frame_Split.C n) (n := n) (frame_Split.ok n) func53 (by kernel_rfl) (by kernel_rfl) (fun x r h => (frame_Split.eq n x).trans h)

def slices_AppendSeq_Lbyte_nil.rs : List RTy := [.fresh (.slc (.int .u8))]
def slices_AppendSeq_Lbyte_nil.ps : List PTy := [.nils (.slc (.int .u8)), .seqp [(.slc (.int .u8))]]
noncomputable def slices_AppendSeq_Lbyte_nil.e (n : Nat) : Ent := ⟨slices_AppendSeq_Lbyte_nil.ps, slices_AppendSeq_Lbyte_nil.rs, fun x => slices_AppendSeq_Lbyte_nil n x.2⟩
noncomputable def slices_AppendSeq_Lbyte_nil.C (n : Nat) : Ctx := { tab := tab, fts := fts, pts := pts, Γ := lookO [], Γc := lookO [], Γs := lookO [], Γm := lookO [], Γo := lookO [], ntmps := f82.ntmps, keep := Vi.look ([], []) [(100002, ([2], [2]))], pins := [] }
theorem slices_AppendSeq_Lbyte_nil.ok (n : Nat) : CtxOk prog (slices_AppendSeq_Lbyte_nil.C n) := ⟨types, ftsOk_, ptsOk_, fns_nil, cls_nil, sqs_nil, ems_nil, mixed, ons_nil⟩
noncomputable def slices_AppendSeq_Lbyte_nil.code : Code := bodyOf f82
theorem slices_AppendSeq_Lbyte_nil.l0.stepz (n : Nat) (s : (List (List Int))) : itS (EmR.no _) (slices_AppendSeq_Lbyte_nil.C n) n (Code.go slices_AppendSeq_Lbyte_nil.code [1, 0, 1, 0]) [(.slc (.int .u8))] [(2, .ptr 2 0 (.slc (.slc (.int .u8))) [])] (blockK 0 (seqK (EmR.no _) (slices_AppendSeq_Lbyte_nil.C n) n (Code.go slices_AppendSeq_Lbyte_nil.code [1, 1]) (bodyK (slices_AppendSeq_Lbyte_nil.C n) f82 slices_AppendSeq_Lbyte_nil.rs))) [] [(200002, .tok 0), (2, .box 0 false (.lst (.tip 200002 0) (.slc (.int .u8)) s))] = slices_AppendSeq_Lbyte_nil.z0 n s := by kernel_rfl
theorem slices_AppendSeq_Lbyte_nil.l0.step (n : Nat) (xs : (List (List Int))) (s : (List (List Int))) (x : (List Int)) : itS (EmR.no _) (slices_AppendSeq_Lbyte_nil.C n) n (Code.go slices_AppendSeq_Lbyte_nil.code [1, 0, 1, 0]) [(.slc (.int .u8))] [(2, .ptr 2 0 (.slc (.slc (.int .u8))) [])] (blockK 0 (seqK (EmR.no _) (slices_AppendSeq_Lbyte_nil.C n) n (Code.go slices_AppendSeq_Lbyte_nil.code [1, 1]) (bodyK (slices_AppendSeq_Lbyte_nil.C n) f82 slices_AppendSeq_Lbyte_nil.rs))) (x :: xs) [(200002, .tok 0), (2, .box 0 false (.lst (.tip 200002 0) (.slc (.int .u8)) s))] = slices_AppendSeq_Lbyte_nil.s0 n (fun (s' : (List (List Int))) => itS (EmR.no _) (slices_AppendSeq_Lbyte_nil.C n) n (Code.go slices_AppendSeq_Lbyte_nil.code [1, 0, 1, 0]) [(.slc (.int .u8))] [(2, .ptr 2 0 (.slc (.slc (.int .u8))) [])] (blockK 0 (seqK (EmR.no _) (slices_AppendSeq_Lbyte_nil.C n) n (Code.go slices_AppendSeq_Lbyte_nil.code [1, 1]) (bodyK (slices_AppendSeq_Lbyte_nil.C n) f82 slices_AppendSeq_Lbyte_nil.rs))) xs [(200002, .tok 0), (2, .box 0 false (.lst (.tip 200002 0) (.slc (.int .u8)) (s')))]) s x := by kernel_rfl
theorem slices_AppendSeq_Lbyte_nil.l0.eq (n : Nat) : ∀ (xs : (List (List Int))) (s : (List (List Int))), itS (EmR.no _) (slices_AppendSeq_Lbyte_nil.C n) n (Code.go slices_AppendSeq_Lbyte_nil.code [1, 0, 1, 0]) [(.slc (.int .u8))] [(2, .ptr 2 0 (.slc (.slc (.int .u8))) [])] (blockK 0 (seqK (EmR.no _) (slices_AppendSeq_Lbyte_nil.C n) n (Code.go slices_AppendSeq_Lbyte_nil.code [1, 1]) (bodyK (slices_AppendSeq_Lbyte_nil.C n) f82 slices_AppendSeq_Lbyte_nil.rs))) xs [(200002, .tok 0), (2, .box 0 false (.lst (.tip 200002 0) (.slc (.int .u8)) s))] = slices_AppendSeq_Lbyte_nil.l0 n xs s
  | [], s => slices_AppendSeq_Lbyte_nil.l0.stepz n s
  | x :: xs, s => (slices_AppendSeq_Lbyte_nil.l0.step n xs s x).trans (congr1 (fun k0 => slices_AppendSeq_Lbyte_nil.s0 n k0 s x) (funext fun s' => slices_AppendSeq_Lbyte_nil.l0.eq n xs s'))
theorem slices_AppendSeq_Lbyte_nil.run0 (n : Nat) (x : pdens slices_AppendSeq_Lbyte_nil.ps) : Vi.run (slices_AppendSeq_Lbyte_nil.C n) n f82 slices_AppendSeq_Lbyte_nil.ps slices_AppendSeq_Lbyte_nil.rs x = slices_AppendSeq_Lbyte_nil.s n (fun (xs' : (List (List Int))) (s' : (List (List Int))) => itS (EmR.no _) (slices_AppendSeq_Lbyte_nil.C n) n (Code.go slices_AppendSeq_Lbyte_nil.code [1, 0, 1, 0]) [(.slc (.int .u8))] [(2, .ptr 2 0 (.slc (.slc (.int .u8))) [])] (blockK 0 (seqK (EmR.no _) (slices_AppendSeq_Lbyte_nil.C n) n (Code.go slices_AppendSeq_Lbyte_nil.code [1, 1]) (bodyK (slices_AppendSeq_Lbyte_nil.C n) f82 slices_AppendSeq_Lbyte_nil.rs))) xs' [(200002, .tok 0), (2, .box 0 false (.lst (.tip 200002 0) (.slc (.int .u8)) (s')))]) x.2 := by kernel_rfl
theorem slices_AppendSeq_Lbyte_nil.eq (n : Nat) (x : pdens slices_AppendSeq_Lbyte_nil.ps) : Vi.run (slices_AppendSeq_Lbyte_nil.C n) n f82 slices_AppendSeq_Lbyte_nil.ps slices_AppendSeq_Lbyte_nil.rs x = slices_AppendSeq_Lbyte_nil n x.2 :=
  (slices_AppendSeq_Lbyte_nil.run0 n x).trans (congr1 (fun k0 => slices_AppendSeq_Lbyte_nil.s n k0 x.2) (funext fun xs' => funext fun s' => slices_AppendSeq_Lbyte_nil.l0.eq n xs' s'))
theorem slices_AppendSeq_Lbyte_nil.sound (n : Nat) : SoundE prog 82 (slices_AppendSeq_Lbyte_nil.e n) :=
  soundE_of_run (C := slices_AppendSeq_Lbyte_nil.C n) (n := n) (slices_AppendSeq_Lbyte_nil.ok n) func82 (by kernel_rfl) (by kernel_rfl) (fun x r h => (slices_AppendSeq_Lbyte_nil.eq n x).trans h)

def slices_Collect_Lbyte.rs : List RTy := [.fresh (.slc (.int .u8))]
def slices_Collect_Lbyte.ps : List PTy := [.seqp [(.slc (.int .u8))]]
noncomputable def slices_Collect_Lbyte.e (n : Nat) : Ent := ⟨slices_Collect_Lbyte.ps, slices_Collect_Lbyte.rs, fun x => slices_Collect_Lbyte n x⟩
noncomputable def slices_Collect_Lbyte.C (n : Nat) : Ctx := { tab := tab, fts := fts, pts := pts, Γ := lookO [(82, slices_AppendSeq_Lbyte_nil.e n)], Γc := lookO [], Γs := lookO [], Γm := lookO [], Γo := lookO [], ntmps := f76.ntmps, keep := Vi.look ([], []) [], pins := [] }
theorem slices_Collect_Lbyte.ok (n : Nat) : CtxOk prog (slices_Collect_Lbyte.C n) := ⟨types, ftsOk_, ptsOk_, (fns_cons (slices_AppendSeq_Lbyte_nil.sound n) fns_nil), cls_nil, sqs_nil, ems_nil, mixed, ons_nil⟩
theorem slices_Collect_Lbyte.eq (n : Nat) (x : pdens slices_Collect_Lbyte.ps) : Vi.run (slices_Collect_Lbyte.C n) n f76 slices_Collect_Lbyte.ps slices_Collect_Lbyte.rs x = slices_Collect_Lbyte n x := by kernel_rfl
theorem slices_Collect_Lbyte.sound (n : Nat) : SoundE prog 76 (slices_Collect_Lbyte.e n) :=
  soundE_of_run (C := slices_Collect_Lbyte.C n) (n := n) (slices_Collect_Lbyte.ok n) func76 (by kernel_rfl) (by kernel_rfl) (fun x r h => (slices_Collect_Lbyte.eq n x).trans h)

def frame_List.rs : List RTy := [.fresh (.slc (.int .u8))]
def frame_List.ps : List PTy := [.data (.slc (.int .u8))]
noncomputable def frame_List.e (n : Nat) : Ent := ⟨frame_List.ps, frame_List.rs, fun x => frame_List n x⟩
noncomputable def frame_List.C (n : Nat) : Ctx := { tab := tab, fts := fts, pts := pts, Γ := lookO [(53, frame_Split.e n), (76, slices_Collect_Lbyte.e n)], Γc := lookO [], Γs := lookO [], Γm := lookO [], Γo := lookO [], ntmps := f56.ntmps, keep := Vi.look ([], []) [], pins := [] }
theorem frame_List.ok (n : Nat) : CtxOk prog (frame_List.C n) := ⟨types, ftsOk_, ptsOk_, (fns_cons (frame_Split.sound n) (fns_cons (slices_Collect_Lbyte.sound n) fns_nil)), cls_nil, sqs_nil, ems_nil, mixed, ons_nil⟩
theorem frame_List.eq (n : Nat) (x : pdens frame_List.ps) : Vi.run (frame_List.C n) n f56 frame_List.ps frame_List.rs x = frame_List n x := by kernel_rfl
theorem frame_List.sound (n : Nat) : SoundE prog 56 (frame_List.e n) :=
  soundE_of_run (C := frame_List.C n) (n := n) (frame_List.ok n) func56 (by kernel_rfl) (by kernel_rfl) (fun x r h => (frame_List.eq n x).trans h)

def frame_Rest.rs : List RTy := [.fresh (.int .u8)]
def frame_Rest.ps : List PTy := [.data (.slc (.int .u8))]
noncomputable def frame_Rest.e (n : Nat) : Ent := ⟨frame_Rest.ps, frame_Rest.rs, fun x => frame_Rest n x⟩
noncomputable def frame_Rest.C (n : Nat) : Ctx := { tab := tab, fts := fts, pts := pts, Γ := lookO [(46, slices_Clone_byte.e n), (74, frame_pieces.e n)], Γc := lookO [], Γs := lookO [], Γm := lookO [], Γo := lookO [], ntmps := f58.ntmps, keep := Vi.look ([], []) [(100003, ([3], [3]))], pins := [] }
theorem frame_Rest.ok (n : Nat) : CtxOk prog (frame_Rest.C n) := ⟨types, ftsOk_, ptsOk_, (fns_cons (slices_Clone_byte.sound n) (fns_cons (frame_pieces.sound n) fns_nil)), cls_nil, sqs_nil, ems_nil, mixed, ons_nil⟩
noncomputable def frame_Rest.code : Code := bodyOf f58
theorem frame_Rest.l0.stepz (n : Nat) (left : (List Int)) : itS (EmR.no _) (frame_Rest.C n) n (Code.go frame_Rest.code [1, 1, 0, 1, 0]) [(.slc (.int .u8)), (.slc (.int .u8))] [(3, .ptr 3 0 (.slc (.int .u8)) [])] (blockK 0 (seqK (EmR.no _) (frame_Rest.C n) n (Code.go frame_Rest.code [1, 1, 1]) (bodyK (frame_Rest.C n) f58 frame_Rest.rs))) [] [(3, .box 0 false (.dat (.slc (.int .u8)) left))] = frame_Rest.z0 n left := by kernel_rfl
theorem frame_Rest.l0.step (n : Nat) (xs : (List ((List Int) × (List Int)))) (left : (List Int)) (x : ((List Int) × (List Int))) : itS (EmR.no _) (frame_Rest.C n) n (Code.go frame_Rest.code [1, 1, 0, 1, 0]) [(.slc (.int .u8)), (.slc (.int .u8))] [(3, .ptr 3 0 (.slc (.int .u8)) [])] (blockK 0 (seqK (EmR.no _) (frame_Rest.C n) n (Code.go frame_Rest.code [1, 1, 1]) (bodyK (frame_Rest.C n) f58 frame_Rest.rs))) (x :: xs) [(3, .box 0 false (.dat (.slc (.int .u8)) left))] = frame_Rest.s0 n (fun (left' : (List Int)) => itS (EmR.no _) (frame_Rest.C n) n (Code.go frame_Rest.code [1, 1, 0, 1, 0]) [(.slc (.int .u8)), (.slc (.int .u8))] [(3, .ptr 3 0 (.slc (.int .u8)) [])] (blockK 0 (seqK (EmR.no _) (frame_Rest.C n) n (Code.go frame_Rest.code [1, 1, 1]) (bodyK (frame_Rest.C n) f58 frame_Rest.rs))) xs [(3, .box 0 false (.dat (.slc (.int .u8)) (left')))]) left x := by kernel_rfl
theorem frame_Rest.l0.eq (n : Nat) : ∀ (xs : (List ((List Int) × (List Int)))) (left : (List Int)), itS (EmR.no _) (frame_Rest.C n) n (Code.go frame_Rest.code [1, 1, 0, 1, 0]) [(.slc (.int .u8)), (.slc (.int .u8))] [(3, .ptr 3 0 (.slc (.int .u8)) [])] (blockK 0 (seqK (EmR.no _) (frame_Rest.C n) n (Code.go frame_Rest.code [1, 1, 1]) (bodyK (frame_Rest.C n) f58 frame_Rest.rs))) xs [(3, .box 0 false (.dat (.slc (.int .u8)) left))] = frame_Rest.l0 n xs left
  | [], left => frame_Rest.l0.stepz n left
  | x :: xs, left => (frame_Rest.l0.step n xs left x).trans (congr1 (fun k0 => frame_Rest.s0 n k0 left x) (funext fun left' => frame_Rest.l0.eq n xs left'))
theorem frame_Rest.run0 (n : Nat) (x : pdens frame_Rest.ps) : Vi.run (frame_Rest.C n) n f58 frame_Rest.ps frame_Rest.rs x = frame_Rest.s n (fun (xs' : (List ((List Int) × (List Int)))) (left' : (List Int)) => itS (EmR.no _) (frame_Rest.C n) n (Code.go frame_Rest.code [1, 1, 0, 1, 0]) [(.slc (.int .u8)), (.slc (.int .u8))] [(3, .ptr 3 0 (.slc (.int .u8)) [])] (blockK 0 (seqK (EmR.no _) (frame_Rest.C n) n (Code.go frame_Rest.code [1, 1, 1]) (bodyK (frame_Rest.C n) f58 frame_Rest.rs))) xs' [(3, .box 0 false (.dat (.slc (.int .u8)) (left')))]) x := by kernel_rfl
theorem frame_Rest.eq (n : Nat) (x : pdens frame_Rest.ps) : Vi.run (frame_Rest.C n) n f58 frame_Rest.ps frame_Rest.rs x = frame_Rest n x :=
  (frame_Rest.run0 n x).trans (congr1 (fun k0 => frame_Rest.s n k0 x) (funext fun xs' => funext fun left' => frame_Rest.l0.eq n xs' left'))
theorem frame_Rest.sound (n : Nat) : SoundE prog 58 (frame_Rest.e n) :=
  soundE_of_run (C := frame_Rest.C n) (n := n) (frame_Rest.ok n) func58 (by kernel_rfl) (by kernel_rfl) (fun x r h => (frame_Rest.eq n x).trans h)

def law16_awake.rs : List RTy := [.data .bool]
def law16_awake.ps : List PTy := []
noncomputable def law16_awake.e (n : Nat) : Ent := ⟨law16_awake.ps, law16_awake.rs, fun x => law16_awake n⟩
noncomputable def law16_awake.C (n : Nat) : Ctx := { tab := tab, fts := fts, pts := pts, Γ := lookO [(35, bytes_Equal.e n), (46, slices_Clone_byte.e n), (51, frame_Head.e n), (53, frame_Split.e n), (56, frame_List.e n), (58, frame_Rest.e n)], Γc := lookO [], Γs := lookO [], Γm := lookO [], Γo := lookO [], ntmps := f50.ntmps, keep := Vi.look ([], []) [], pins := [] }
theorem law16_awake.ok (n : Nat) : CtxOk prog (law16_awake.C n) := ⟨types, ftsOk_, ptsOk_, (fns_cons (bytes_Equal.sound n) (fns_cons (slices_Clone_byte.sound n) (fns_cons (frame_Head.sound n) (fns_cons (frame_Split.sound n) (fns_cons (frame_List.sound n) (fns_cons (frame_Rest.sound n) fns_nil)))))), cls_nil, sqs_nil, ems_nil, mixed, ons_nil⟩
theorem law16_awake.eq (n : Nat) (x : pdens law16_awake.ps) : Vi.run (law16_awake.C n) n f50 law16_awake.ps law16_awake.rs x = law16_awake n := by kernel_rfl
theorem law16_awake.sound (n : Nat) : SoundE prog 50 (law16_awake.e n) :=
  soundE_of_run (C := law16_awake.C n) (n := n) (law16_awake.ok n) func50 (by kernel_rfl) (by kernel_rfl) (fun x r h => (law16_awake.eq n x).trans h)

def ref16_says.rs : List RTy := [.data (.int .i64), .data .bool]
def ref16_says.ps : List PTy := [.data (.slc (.int .u8))]
noncomputable def ref16_says.e (n : Nat) : Ent := ⟨ref16_says.ps, ref16_says.rs, fun x => ref16_says x⟩
noncomputable def ref16_says.C (n : Nat) : Ctx := { tab := tab, fts := fts, pts := pts, Γ := lookO [], Γc := lookO [], Γs := lookO [], Γm := lookO [], Γo := lookO [], ntmps := f75.ntmps, keep := Vi.look ([], []) [], pins := [] }
theorem ref16_says.ok (n : Nat) : CtxOk prog (ref16_says.C n) := ⟨types, ftsOk_, ptsOk_, fns_nil, cls_nil, sqs_nil, ems_nil, mixed, ons_nil⟩
theorem ref16_says.eq (n : Nat) (x : pdens ref16_says.ps) : Vi.run (ref16_says.C n) n f75 ref16_says.ps ref16_says.rs x = ref16_says x := by kernel_rfl
theorem ref16_says.sound (n : Nat) : SoundE prog 75 (ref16_says.e n) :=
  soundE_of_run (C := ref16_says.C n) (n := n) (ref16_says.ok n) func75 (by kernel_rfl) (by kernel_rfl) (fun x r h => (ref16_says.eq n x).trans h)

def ref16_List.rs : List RTy := [.fresh (.slc (.int .u8))]
def ref16_List.ps : List PTy := [.data (.slc (.int .u8))]
noncomputable def ref16_List.e (n : Nat) : Ent := ⟨ref16_List.ps, ref16_List.rs, fun x => ref16_List n x⟩
noncomputable def ref16_List.C (n : Nat) : Ctx := { tab := tab, fts := fts, pts := pts, Γ := lookO [(75, ref16_says.e n)], Γc := lookO [], Γs := lookO [], Γm := lookO [], Γo := lookO [], ntmps := f54.ntmps, keep := Vi.look ([], []) [(2, ([0, 3], []))], pins := [] }
theorem ref16_List.ok (n : Nat) : CtxOk prog (ref16_List.C n) := ⟨types, ftsOk_, ptsOk_, (fns_cons (ref16_says.sound n) fns_nil), cls_nil, sqs_nil, ems_nil, mixed, ons_nil⟩
noncomputable def ref16_List.code : Code := bodyOf f54
theorem ref16_List.l0.step (n : Nat) (m0 : Nat) (b_1 : (List Int)) (out : (List (List Int))) : it (EmR.no _) (ref16_List.C n) n (Code.go ref16_List.code [1, 1, 0, 0]) (blockK 0 (bodyK (ref16_List.C n) f54 ref16_List.rs)) (m0 + 1) ⟨[(0, .dat (.slc (.int .u8)) b_1), (3, .lst (.tip 100003 0) (.slc (.int .u8)) out)], [(100003, .tok 0)]⟩ = ref16_List.s0 n (fun (b_1' : (List Int)) (out' : (List (List Int))) => it (EmR.no _) (ref16_List.C n) n (Code.go ref16_List.code [1, 1, 0, 0]) (blockK 0 (bodyK (ref16_List.C n) f54 ref16_List.rs)) m0 ⟨[(0, .dat (.slc (.int .u8)) (b_1')), (3, .lst (.tip 100003 0) (.slc (.int .u8)) (out'))], [(100003, .tok 0)]⟩) b_1 out := by kernel_rfl
theorem ref16_List.l0.eq (n : Nat) : ∀ (m0 : Nat) (b_1 : (List Int)) (out : (List (List Int))), it (EmR.no _) (ref16_List.C n) n (Code.go ref16_List.code [1, 1, 0, 0]) (blockK 0 (bodyK (ref16_List.C n) f54 ref16_List.rs)) m0 ⟨[(0, .dat (.slc (.int .u8)) b_1), (3, .lst (.tip 100003 0) (.slc (.int .u8)) out)], [(100003, .tok 0)]⟩ = ref16_List.l0 n m0 b_1 out
  | 0, _, _ => rfl
  | m0 + 1, b_1, out =>
    (ref16_List.l0.step n m0 b_1 out).trans (congr1 (fun k0 => ref16_List.s0 n k0 b_1 out) (funext fun b_1' => funext fun out' => ref16_List.l0.eq n m0 b_1' out'))
theorem ref16_List.run0 (n : Nat) (x : pdens ref16_List.ps) : Vi.run (ref16_List.C n) n f54 ref16_List.ps ref16_List.rs x = ref16_List.s n (fun (b_1' : (List Int)) (out' : (List (List Int))) => it (EmR.no _) (ref16_List.C n) n (Code.go ref16_List.code [1, 1, 0, 0]) (blockK 0 (bodyK (ref16_List.C n) f54 ref16_List.rs)) n ⟨[(0, .dat (.slc (.int .u8)) (b_1')), (3, .lst (.tip 100003 0) (.slc (.int .u8)) (out'))], [(100003, .tok 0)]⟩) x := by kernel_rfl
theorem ref16_List.eq (n : Nat) (x : pdens ref16_List.ps) : Vi.run (ref16_List.C n) n f54 ref16_List.ps ref16_List.rs x = ref16_List n x :=
  (ref16_List.run0 n x).trans (congr1 (fun k0 => ref16_List.s n k0 x) (funext fun b_1' => funext fun out' => ref16_List.l0.eq n n b_1' out'))
theorem ref16_List.sound (n : Nat) : SoundE prog 54 (ref16_List.e n) :=
  soundE_of_run (C := ref16_List.C n) (n := n) (ref16_List.ok n) func54 (by kernel_rfl) (by kernel_rfl) (fun x r h => (ref16_List.eq n x).trans h)

def slices_EqualFunc_Lbyte.rs : List RTy := [.data .bool]
def slices_EqualFunc_Lbyte.ps : List PTy := [.data (.slc (.slc (.int .u8))), .data (.slc (.slc (.int .u8))), .fnp [(.slc (.int .u8)), (.slc (.int .u8))] [.bool]]
noncomputable def slices_EqualFunc_Lbyte.e (n : Nat) : Ent := ⟨slices_EqualFunc_Lbyte.ps, slices_EqualFunc_Lbyte.rs, fun x => slices_EqualFunc_Lbyte n x.1 x.2.1 x.2.2⟩
noncomputable def slices_EqualFunc_Lbyte.C (n : Nat) : Ctx := { tab := tab, fts := fts, pts := pts, Γ := lookO [], Γc := lookO [], Γs := lookO [], Γm := lookO [], Γo := lookO [], ntmps := f55.ntmps, keep := Vi.look ([], []) [(4, ([1, 2, 15, 16, 17], []))], pins := [] }
theorem slices_EqualFunc_Lbyte.ok (n : Nat) : CtxOk prog (slices_EqualFunc_Lbyte.C n) := ⟨types, ftsOk_, ptsOk_, fns_nil, cls_nil, sqs_nil, ems_nil, mixed, ons_nil⟩
noncomputable def slices_EqualFunc_Lbyte.code : Code := bodyOf f55
theorem slices_EqualFunc_Lbyte.l0.step (n : Nat) (m0 : Nat) (s2_1 : (List (List Int))) (eq_1 : (((List Int) × (List Int)) → Option Bool)) (v15 : (List (List Int))) (v16 : Int) (v17 : Int) : it (EmR.no _) (slices_EqualFunc_Lbyte.C n) n (Code.go slices_EqualFunc_Lbyte.code [1, 1, 0, 1, 0, 0]) (blockK 0 (seqK (EmR.no _) (slices_EqualFunc_Lbyte.C n) n (Code.go slices_EqualFunc_Lbyte.code [1, 1, 1]) (bodyK (slices_EqualFunc_Lbyte.C n) f55 slices_EqualFunc_Lbyte.rs))) (m0 + 1) ⟨[(1, .dat (.slc (.slc (.int .u8))) s2_1), (2, .fn [(.slc (.int .u8)), (.slc (.int .u8))] [.bool] eq_1), (15, .dat (.slc (.slc (.int .u8))) v15), (16, .dat (.int .i64) v16), (17, .dat (.int .i64) v17)], []⟩ = slices_EqualFunc_Lbyte.s0 n (fun (v17' : Int) => it (EmR.no _) (slices_EqualFunc_Lbyte.C n) n (Code.go slices_EqualFunc_Lbyte.code [1, 1, 0, 1, 0, 0]) (blockK 0 (seqK (EmR.no _) (slices_EqualFunc_Lbyte.C n) n (Code.go slices_EqualFunc_Lbyte.code [1, 1, 1]) (bodyK (slices_EqualFunc_Lbyte.C n) f55 slices_EqualFunc_Lbyte.rs))) m0 ⟨[(1, .dat (.slc (.slc (.int .u8))) s2_1), (2, .fn [(.slc (.int .u8)), (.slc (.int .u8))] [.bool] eq_1), (15, .dat (.slc (.slc (.int .u8))) v15), (16, .dat (.int .i64) v16), (17, .dat (.int .i64) (v17'))], []⟩) s2_1 eq_1 v15 v16 v17 := by kernel_rfl
theorem slices_EqualFunc_Lbyte.l0.eq (n : Nat) (s2_1 : (List (List Int))) (eq_1 : (((List Int) × (List Int)) → Option Bool)) (v15 : (List (List Int))) (v16 : Int) : ∀ (m0 : Nat) (v17 : Int), it (EmR.no _) (slices_EqualFunc_Lbyte.C n) n (Code.go slices_EqualFunc_Lbyte.code [1, 1, 0, 1, 0, 0]) (blockK 0 (seqK (EmR.no _) (slices_EqualFunc_Lbyte.C n) n (Code.go slices_EqualFunc_Lbyte.code [1, 1, 1]) (bodyK (slices_EqualFunc_Lbyte.C n) f55 slices_EqualFunc_Lbyte.rs))) m0 ⟨[(1, .dat (.slc (.slc (.int .u8))) s2_1), (2, .fn [(.slc (.int .u8)), (.slc (.int .u8))] [.bool] eq_1), (15, .dat (.slc (.slc (.int .u8))) v15), (16, .dat (.int .i64) v16), (17, .dat (.int .i64) v17)], []⟩ = slices_EqualFunc_Lbyte.l0 n s2_1 eq_1 v15 v16 m0 v17
  | 0, _ => rfl
  | m0 + 1, v17 =>
    (slices_EqualFunc_Lbyte.l0.step n m0 s2_1 eq_1 v15 v16 v17).trans (congr1 (fun k0 => slices_EqualFunc_Lbyte.s0 n k0 s2_1 eq_1 v15 v16 v17) (funext fun v17' => slices_EqualFunc_Lbyte.l0.eq n s2_1 eq_1 v15 v16 m0 v17'))
theorem slices_EqualFunc_Lbyte.run0 (n : Nat) (x : pdens slices_EqualFunc_Lbyte.ps) : Vi.run (slices_EqualFunc_Lbyte.C n) n f55 slices_EqualFunc_Lbyte.ps slices_EqualFunc_Lbyte.rs x = slices_EqualFunc_Lbyte.s n (fun (s2_1' : (List (List Int))) (eq_1' : (((List Int) × (List Int)) → Option Bool)) (v15' : (List (List Int))) (v16' : Int) (v17' : Int) => it (EmR.no _) (slices_EqualFunc_Lbyte.C n) n (Code.go slices_EqualFunc_Lbyte.code [1, 1, 0, 1, 0, 0]) (blockK 0 (seqK (EmR.no _) (slices_EqualFunc_Lbyte.C n) n (Code.go slices_EqualFunc_Lbyte.code [1, 1, 1]) (bodyK (slices_EqualFunc_Lbyte.C n) f55 slices_EqualFunc_Lbyte.rs))) n ⟨[(1, .dat (.slc (.slc (.int .u8))) (s2_1')), (2, .fn [(.slc (.int .u8)), (.slc (.int .u8))] [.bool] (eq_1')), (15, .dat (.slc (.slc (.int .u8))) (v15')), (16, .dat (.int .i64) (v16')), (17, .dat (.int .i64) (v17'))], []⟩) x.1 x.2.1 x.2.2 := by kernel_rfl
theorem slices_EqualFunc_Lbyte.eq (n : Nat) (x : pdens slices_EqualFunc_Lbyte.ps) : Vi.run (slices_EqualFunc_Lbyte.C n) n f55 slices_EqualFunc_Lbyte.ps slices_EqualFunc_Lbyte.rs x = slices_EqualFunc_Lbyte n x.1 x.2.1 x.2.2 :=
  (slices_EqualFunc_Lbyte.run0 n x).trans (congr1 (fun k0 => slices_EqualFunc_Lbyte.s n k0 x.1 x.2.1 x.2.2) (funext fun s2_1' => funext fun eq_1' => funext fun v15' => funext fun v16' => funext fun v17' => slices_EqualFunc_Lbyte.l0.eq n s2_1' eq_1' v15' v16' n v17'))
theorem slices_EqualFunc_Lbyte.sound (n : Nat) : SoundE prog 55 (slices_EqualFunc_Lbyte.e n) :=
  soundE_of_run (C := slices_EqualFunc_Lbyte.C n) (n := n) (slices_EqualFunc_Lbyte.ok n) func55 (by kernel_rfl) (by kernel_rfl) (fun x r h => (slices_EqualFunc_Lbyte.eq n x).trans h)

def bytes_Equal_c.rs : List Ty := [.bool]
def bytes_Equal_c.ps : List Ty := [(.slc (.int .u8)), (.slc (.int .u8))]
def bytes_Equal_c.caps : List PTy := []
noncomputable def bytes_Equal_c.e (n : Nat) : Cl := ⟨bytes_Equal_c.ps, bytes_Equal_c.caps, bytes_Equal_c.rs, fun x c => some (bytes_Equal_c x.1 x.2)⟩
noncomputable def bytes_Equal_c.C (n : Nat) : Ctx := { tab := tab, fts := fts, pts := pts, Γ := lookO [], Γc := lookO [], Γs := lookO [], Γm := lookO [], Γo := lookO [], ntmps := f35.ntmps, keep := Vi.look ([], []) [], pins := [] }
theorem bytes_Equal_c.ok (n : Nat) : CtxOk prog (bytes_Equal_c.C n) := ⟨types, ftsOk_, ptsOk_, fns_nil, cls_nil, sqs_nil, ems_nil, mixed, ons_nil⟩
theorem bytes_Equal_c.eq (n : Nat) (x : dens bytes_Equal_c.ps) (c : pdens bytes_Equal_c.caps) : Vi.runC (bytes_Equal_c.C n) n f35 bytes_Equal_c.ps bytes_Equal_c.caps bytes_Equal_c.rs x c = some (bytes_Equal_c x.1 x.2) := by kernel_rfl
theorem bytes_Equal_c.sound (n : Nat) : SoundC prog 35 (bytes_Equal_c.e n) :=
  soundC_of_run (C := bytes_Equal_c.C n) (n := n) (bytes_Equal_c.ok n) func35 (by kernel_rfl) (by kernel_rfl) (fun x c r h => (bytes_Equal_c.eq n x c).trans h)

def law16_all.rs : List RTy := [.fresh (.slc (.int .u8))]
def law16_all.ps : List PTy := [.data (.slc (.int .u8)), .data (.int .i64)]
noncomputable def law16_all.e (n : Nat) : Ent := ⟨law16_all.ps, law16_all.rs, fun x => law16_all n x.1 x.2⟩
noncomputable def law16_all.C (n : Nat) : Ctx := { tab := tab, fts := fts, pts := pts, Γ := lookO [(53, frame_Split.e n)], Γc := lookO [], Γs := lookO [], Γm := lookO [], Γo := lookO [], ntmps := f57.ntmps, keep := Vi.look ([], []) [(100003, ([3, 5], [3, 5]))], pins := [] }
theorem law16_all.ok (n : Nat) : CtxOk prog (law16_all.C n) := ⟨types, ftsOk_, ptsOk_, (fns_cons (frame_Split.sound n) fns_nil), cls_nil, sqs_nil, ems_nil, mixed, ons_nil⟩
noncomputable def law16_all.code : Code := bodyOf f57
theorem law16_all.l0.stepz (n : Nat) (most_1 : Int) (out : (List (List Int))) : itS (EmR.no _) (law16_all.C n) n (Code.go law16_all.code [1, 1, 0, 1, 0]) [(.slc (.int .u8))] [(3, .ptr 3 0 (.int .i64) []), (5, .ptr 5 0 (.slc (.slc (.int .u8))) [])] (blockK 0 (seqK (EmR.no _) (law16_all.C n) n (Code.go law16_all.code [1, 1, 1]) (bodyK (law16_all.C n) f57 law16_all.rs))) [] [(200005, .tok 0), (3, .box 0 false (.dat (.int .i64) most_1)), (5, .box 0 false (.lst (.tip 200005 0) (.slc (.int .u8)) out))] = law16_all.z0 n most_1 out := by kernel_rfl
theorem law16_all.l0.step (n : Nat) (xs : (List (List Int))) (most_1 : Int) (out : (List (List Int))) (x : (List Int)) : itS (EmR.no _) (law16_all.C n) n (Code.go law16_all.code [1, 1, 0, 1, 0]) [(.slc (.int .u8))] [(3, .ptr 3 0 (.int .i64) []), (5, .ptr 5 0 (.slc (.slc (.int .u8))) [])] (blockK 0 (seqK (EmR.no _) (law16_all.C n) n (Code.go law16_all.code [1, 1, 1]) (bodyK (law16_all.C n) f57 law16_all.rs))) (x :: xs) [(200005, .tok 0), (3, .box 0 false (.dat (.int .i64) most_1)), (5, .box 0 false (.lst (.tip 200005 0) (.slc (.int .u8)) out))] = law16_all.s0 n (fun (out' : (List (List Int))) => itS (EmR.no _) (law16_all.C n) n (Code.go law16_all.code [1, 1, 0, 1, 0]) [(.slc (.int .u8))] [(3, .ptr 3 0 (.int .i64) []), (5, .ptr 5 0 (.slc (.slc (.int .u8))) [])] (blockK 0 (seqK (EmR.no _) (law16_all.C n) n (Code.go law16_all.code [1, 1, 1]) (bodyK (law16_all.C n) f57 law16_all.rs))) xs [(200005, .tok 0), (3, .box 0 false (.dat (.int .i64) most_1)), (5, .box 0 false (.lst (.tip 200005 0) (.slc (.int .u8)) (out')))]) most_1 out x := by kernel_rfl
theorem law16_all.l0.eq (n : Nat) (most_1 : Int) : ∀ (xs : (List (List Int))) (out : (List (List Int))), itS (EmR.no _) (law16_all.C n) n (Code.go law16_all.code [1, 1, 0, 1, 0]) [(.slc (.int .u8))] [(3, .ptr 3 0 (.int .i64) []), (5, .ptr 5 0 (.slc (.slc (.int .u8))) [])] (blockK 0 (seqK (EmR.no _) (law16_all.C n) n (Code.go law16_all.code [1, 1, 1]) (bodyK (law16_all.C n) f57 law16_all.rs))) xs [(200005, .tok 0), (3, .box 0 false (.dat (.int .i64) most_1)), (5, .box 0 false (.lst (.tip 200005 0) (.slc (.int .u8)) out))] = law16_all.l0 n most_1 xs out
  | [], out => law16_all.l0.stepz n most_1 out
  | x :: xs, out => (law16_all.l0.step n xs most_1 out x).trans (congr1 (fun k0 => law16_all.s0 n k0 most_1 out x) (funext fun out' => law16_all.l0.eq n most_1 xs out'))
theorem law16_all.run0 (n : Nat) (x : pdens law16_all.ps) : Vi.run (law16_all.C n) n f57 law16_all.ps law16_all.rs x = law16_all.s n (fun (xs' : (List (List Int))) (most_1' : Int) (out' : (List (List Int))) => itS (EmR.no _) (law16_all.C n) n (Code.go law16_all.code [1, 1, 0, 1, 0]) [(.slc (.int .u8))] [(3, .ptr 3 0 (.int .i64) []), (5, .ptr 5 0 (.slc (.slc (.int .u8))) [])] (blockK 0 (seqK (EmR.no _) (law16_all.C n) n (Code.go law16_all.code [1, 1, 1]) (bodyK (law16_all.C n) f57 law16_all.rs))) xs' [(200005, .tok 0), (3, .box 0 false (.dat (.int .i64) (most_1'))), (5, .box 0 false (.lst (.tip 200005 0) (.slc (.int .u8)) (out')))]) x.1 x.2 := by kernel_rfl
theorem law16_all.eq (n : Nat) (x : pdens law16_all.ps) : Vi.run (law16_all.C n) n f57 law16_all.ps law16_all.rs x = law16_all n x.1 x.2 :=
  (law16_all.run0 n x).trans (congr1 (fun k0 => law16_all.s n k0 x.1 x.2) (funext fun xs' => funext fun most_1' => funext fun out' => law16_all.l0.eq n most_1' xs' out'))
theorem law16_all.sound (n : Nat) : SoundE prog 57 (law16_all.e n) :=
  soundE_of_run (C := law16_all.C n) (n := n) (law16_all.ok n) func57 (by kernel_rfl) (by kernel_rfl) (fun x r h => (law16_all.eq n x).trans h)

def ref16_Rest.rs : List RTy := [.fresh (.int .u8)]
def ref16_Rest.ps : List PTy := [.data (.slc (.int .u8))]
noncomputable def ref16_Rest.e (n : Nat) : Ent := ⟨ref16_Rest.ps, ref16_Rest.rs, fun x => ref16_Rest n x⟩
noncomputable def ref16_Rest.C (n : Nat) : Ctx := { tab := tab, fts := fts, pts := pts, Γ := lookO [(75, ref16_says.e n)], Γc := lookO [], Γs := lookO [], Γm := lookO [], Γo := lookO [], ntmps := f59.ntmps, keep := Vi.look ([], []) [(1, ([0], []))], pins := [] }
theorem ref16_Rest.ok (n : Nat) : CtxOk prog (ref16_Rest.C n) := ⟨types, ftsOk_, ptsOk_, (fns_cons (ref16_says.sound n) fns_nil), cls_nil, sqs_nil, ems_nil, mixed, ons_nil⟩
noncomputable def ref16_Rest.code : Code := bodyOf f59
theorem ref16_Rest.l0.step (n : Nat) (m0 : Nat) (b_1 : (List Int)) : it (EmR.no _) (ref16_Rest.C n) n (Code.go ref16_Rest.code [1, 0, 0]) (blockK 0 (bodyK (ref16_Rest.C n) f59 ref16_Rest.rs)) (m0 + 1) ⟨[(0, .dat (.slc (.int .u8)) b_1)], []⟩ = ref16_Rest.s0 n (fun (b_1' : (List Int)) => it (EmR.no _) (ref16_Rest.C n) n (Code.go ref16_Rest.code [1, 0, 0]) (blockK 0 (bodyK (ref16_Rest.C n) f59 ref16_Rest.rs)) m0 ⟨[(0, .dat (.slc (.int .u8)) (b_1'))], []⟩) b_1 := by kernel_rfl
theorem ref16_Rest.l0.eq (n : Nat) : ∀ (m0 : Nat) (b_1 : (List Int)), it (EmR.no _) (ref16_Rest.C n) n (Code.go ref16_Rest.code [1, 0, 0]) (blockK 0 (bodyK (ref16_Rest.C n) f59 ref16_Rest.rs)) m0 ⟨[(0, .dat (.slc (.int .u8)) b_1)], []⟩ = ref16_Rest.l0 n m0 b_1
  | 0, _ => rfl
  | m0 + 1, b_1 =>
    (ref16_Rest.l0.step n m0 b_1).trans (congr1 (fun k0 => ref16_Rest.s0 n k0 b_1) (funext fun b_1' => ref16_Rest.l0.eq n m0 b_1'))
theorem ref16_Rest.run0 (n : Nat) (x : pdens ref16_Rest.ps) : Vi.run (ref16_Rest.C n) n f59 ref16_Rest.ps ref16_Rest.rs x = ref16_Rest.s n (fun (b_1' : (List Int)) => it (EmR.no _) (ref16_Rest.C n) n (Code.go ref16_Rest.code [1, 0, 0]) (blockK 0 (bodyK (ref16_Rest.C n) f59 ref16_Rest.rs)) n ⟨[(0, .dat (.slc (.int .u8)) (b_1'))], []⟩) x := by kernel_rfl
theorem ref16_Rest.eq (n : Nat) (x : pdens ref16_Rest.ps) : Vi.run (ref16_Rest.C n) n f59 ref16_Rest.ps ref16_Rest.rs x = ref16_Rest n x :=
  (ref16_Rest.run0 n x).trans (congr1 (fun k0 => ref16_Rest.s n k0 x) (funext fun b_1' => ref16_Rest.l0.eq n n b_1'))
theorem ref16_Rest.sound (n : Nat) : SoundE prog 59 (ref16_Rest.e n) :=
  soundE_of_run (C := ref16_Rest.C n) (n := n) (ref16_Rest.ok n) func59 (by kernel_rfl) (by kernel_rfl) (fun x r h => (ref16_Rest.eq n x).trans h)

def law16_FrameSplits.rs : List RTy := [.data .bool]
def law16_FrameSplits.ps : List PTy := [.data (.slc (.int .u8)), .data (.int .u8)]
noncomputable def law16_FrameSplits.e (n : Nat) : Ent := ⟨law16_FrameSplits.ps, law16_FrameSplits.rs, fun x => law16_FrameSplits n x.1 x.2⟩
noncomputable def law16_FrameSplits.C (n : Nat) : Ctx := { tab := tab, fts := fts, pts := pts, Γ := lookO [(35, bytes_Equal.e n), (50, law16_awake.e n), (53, frame_Split.e n), (54, ref16_List.e n), (55, slices_EqualFunc_Lbyte.e n), (56, frame_List.e n), (57, law16_all.e n), (58, frame_Rest.e n), (59, ref16_Rest.e n)], Γc := lookO [(35, bytes_Equal_c.e n)], Γs := lookO [], Γm := lookO [], Γo := lookO [], ntmps := f11.ntmps, keep := Vi.look ([], []) [], pins := [] }
theorem law16_FrameSplits.ok (n : Nat) : CtxOk prog (law16_FrameSplits.C n) := ⟨types, ftsOk_, ptsOk_, (fns_cons (bytes_Equal.sound n) (fns_cons (law16_awake.sound n) (fns_cons (frame_Split.sound n) (fns_cons (ref16_List.sound n) (fns_cons (slices_EqualFunc_Lbyte.sound n) (fns_cons (frame_List.sound n) (fns_cons (law16_all.sound n) (fns_cons (frame_Rest.sound n) (fns_cons (ref16_Rest.sound n) fns_nil))))))))), (cls_cons (bytes_Equal_c.sound n) cls_nil), sqs_nil, ems_nil, mixed, ons_nil⟩
theorem law16_FrameSplits.eq (n : Nat) (x : pdens law16_FrameSplits.ps) : Vi.run (law16_FrameSplits.C n) n f11 law16_FrameSplits.ps law16_FrameSplits.rs x = law16_FrameSplits n x.1 x.2 := by kernel_rfl
theorem law16_FrameSplits.sound (n : Nat) : SoundE prog 11 (law16_FrameSplits.e n) :=
  soundE_of_run (C := law16_FrameSplits.C n) (n := n) (law16_FrameSplits.ok n) func11 (by kernel_rfl) (by kernel_rfl) (fun x r h => (law16_FrameSplits.eq n x).trans h)
def law16_FrameSplits.g (n : Nat) (x : pdens (law16_FrameSplits.τs.map PTy.data)) : Option Bool := law16_FrameSplits n x.1 x.2
theorem law16_FrameSplits.soundN (n : Nat) : SoundE prog 11 ⟨law16_FrameSplits.τs.map PTy.data, [.data .bool], law16_FrameSplits.g n⟩ := law16_FrameSplits.sound n

def law16_FrameHeads.rs : List RTy := [.data .bool]
def law16_FrameHeads.ps : List PTy := [.data (.int .i64), .data (.int .i64), .data (.slc (.int .u8))]
noncomputable def law16_FrameHeads.e (n : Nat) : Ent := ⟨law16_FrameHeads.ps, law16_FrameHeads.rs, fun x => law16_FrameHeads n x.1 x.2.1 x.2.2⟩
noncomputable def law16_FrameHeads.C (n : Nat) : Ctx := { tab := tab, fts := fts, pts := pts, Γ := lookO [(35, bytes_Equal.e n), (50, law16_awake.e n), (51, frame_Head.e n), (52, ref16_Head.e n)], Γc := lookO [], Γs := lookO [], Γm := lookO [], Γo := lookO [], ntmps := f10.ntmps, keep := Vi.look ([], []) [], pins := [] }
theorem law16_FrameHeads.ok (n : Nat) : CtxOk prog (law16_FrameHeads.C n) := ⟨types, ftsOk_, ptsOk_, (fns_cons (bytes_Equal.sound n) (fns_cons (law16_awake.sound n) (fns_cons (frame_Head.sound n) (fns_cons (ref16_Head.sound n) fns_nil)))), cls_nil, sqs_nil, ems_nil, mixed, ons_nil⟩
theorem law16_FrameHeads.eq (n : Nat) (x : pdens law16_FrameHeads.ps) : Vi.run (law16_FrameHeads.C n) n f10 law16_FrameHeads.ps law16_FrameHeads.rs x = law16_FrameHeads n x.1 x.2.1 x.2.2 := by kernel_rfl
theorem law16_FrameHeads.sound (n : Nat) : SoundE prog 10 (law16_FrameHeads.e n) :=
  soundE_of_run (C := law16_FrameHeads.C n) (n := n) (law16_FrameHeads.ok n) func10 (by kernel_rfl) (by kernel_rfl) (fun x r h => (law16_FrameHeads.eq n x).trans h)
def law16_FrameHeads.g (n : Nat) (x : pdens (law16_FrameHeads.τs.map PTy.data)) : Option Bool := law16_FrameHeads n x.1 x.2.1 x.2.2
theorem law16_FrameHeads.soundN (n : Nat) : SoundE prog 10 ⟨law16_FrameHeads.τs.map PTy.data, [.data .bool], law16_FrameHeads.g n⟩ := law16_FrameHeads.sound n

def law19_FaultBack.rs : List RTy := [.data .bool]
def law19_FaultBack.ps : List PTy := [.data (.int .u16), .data (.int .u16), .data (.slc (.int .u8))]
noncomputable def law19_FaultBack.e (n : Nat) : Ent := ⟨law19_FaultBack.ps, law19_FaultBack.rs, fun x => law19_FaultBack n x.1 x.2.1 x.2.2⟩
noncomputable def law19_FaultBack.C (n : Nat) : Ctx := { tab := tab, fts := fts, pts := pts, Γ := lookO [(34, law19_awake.e n), (35, bytes_Equal.e n), (36, fault_Reply.e n), (38, fault_Of.e n), (42, fault_Parse.e n), (56, frame_List.e n)], Γc := lookO [], Γs := lookO [], Γm := lookO [], Γo := lookO [], ntmps := f12.ntmps, keep := Vi.look ([], []) [], pins := [] }
theorem law19_FaultBack.ok (n : Nat) : CtxOk prog (law19_FaultBack.C n) := ⟨types, ftsOk_, ptsOk_, (fns_cons (law19_awake.sound n) (fns_cons (bytes_Equal.sound n) (fns_cons (fault_Reply.sound n) (fns_cons (fault_Of.sound n) (fns_cons (fault_Parse.sound n) (fns_cons (frame_List.sound n) fns_nil)))))), cls_nil, sqs_nil, ems_nil, mixed, ons_nil⟩
theorem law19_FaultBack.eq (n : Nat) (x : pdens law19_FaultBack.ps) : Vi.run (law19_FaultBack.C n) n f12 law19_FaultBack.ps law19_FaultBack.rs x = law19_FaultBack n x.1 x.2.1 x.2.2 := by kernel_rfl
theorem law19_FaultBack.sound (n : Nat) : SoundE prog 12 (law19_FaultBack.e n) :=
  soundE_of_run (C := law19_FaultBack.C n) (n := n) (law19_FaultBack.ok n) func12 (by kernel_rfl) (by kernel_rfl) (fun x r h => (law19_FaultBack.eq n x).trans h)
def law19_FaultBack.g (n : Nat) (x : pdens (law19_FaultBack.τs.map PTy.data)) : Option Bool := law19_FaultBack n x.1 x.2.1 x.2.2
theorem law19_FaultBack.soundN (n : Nat) : SoundE prog 12 ⟨law19_FaultBack.τs.map PTy.data, [.data .bool], law19_FaultBack.g n⟩ := law19_FaultBack.sound n

def bytes_Join.ps : List PTy := [.data (.slc (.slc (.int .u8))), .data (.slc (.int .u8))]
def bytes_Join.rs : List RTy := [.fresh (.int .u8)]
noncomputable def bytes_Join.e (n : Nat) : Ent := ⟨bytes_Join.ps, bytes_Join.rs, fun x => bytes_Join x.1 x.2⟩
def bytes_Join.ren : Go.Shelf.Ren := ⟨fun | 14 => 60 | 15 => 77 | n => n, fun | 0 => 0 | 3 => 3 | 4 => 4 | 5 => 5 | 9 => 9 | 20 => 20 | 22 => 34 | 26 => 56 | n => n, fun n => n⟩
theorem bytes_Join.lays : Go.Proofs.SlLaysJ.n14 prog bytes_Join.ren := {
  mixed := mixed
  f14 := func60.trans (congrArg some (by kernel_rfl))
  f15 := func77.trans (congrArg some (by kernel_rfl))
  t0 := underlying0
  a0 := isAgg0
  z0 := sizeOf0
  v0 := zeroValue0
  t3 := underlying3
  a3 := isAgg3
  z3 := sizeOf3
  v3 := zeroValue3
  t4 := underlying4
  a4 := isAgg4
  z4 := sizeOf4
  v4 := zeroValue4
  t9 := underlying9
  a9 := isAgg9
  z9 := sizeOf9
  v9 := zeroValue9
  t20 := underlying20
  a20 := isAgg20
  z20 := sizeOf20
  v20 := zeroValue20
  t22 := underlying34
  a22 := isAgg34
  z22 := sizeOf34
  v22 := zeroValue34
  t26 := underlying56
  a26 := isAgg56
  z26 := sizeOf56
  v26 := zeroValue56
  t5 := underlying5
  z5 := sizeOf5
  i5 := by kernel_rfl }
theorem bytes_Join.sound (n : Nat) : SoundE prog 60 (bytes_Join.e n) := soundE_join (P := prog) (ρ := bytes_Join.ren) bytes_Join.lays ⟨f60, func60, by kernel_rfl, by kernel_rfl⟩

def law16_FrameAll.rs : List RTy := [.data .bool]
def law16_FrameAll.ps : List PTy := [.data (.slc (.int .u8))]
noncomputable def law16_FrameAll.e (n : Nat) : Ent := ⟨law16_FrameAll.ps, law16_FrameAll.rs, fun x => law16_FrameAll n x⟩
noncomputable def law16_FrameAll.C (n : Nat) : Ctx := { tab := tab, fts := fts, pts := pts, Γ := lookO [(35, bytes_Equal.e n), (50, law16_awake.e n), (56, frame_List.e n), (58, frame_Rest.e n), (60, bytes_Join.e n)], Γc := lookO [], Γs := lookO [], Γm := lookO [], Γo := lookO [], ntmps := f13.ntmps, keep := Vi.look ([], []) [], pins := [] }
theorem law16_FrameAll.ok (n : Nat) : CtxOk prog (law16_FrameAll.C n) := ⟨types, ftsOk_, ptsOk_, (fns_cons (bytes_Equal.sound n) (fns_cons (law16_awake.sound n) (fns_cons (frame_List.sound n) (fns_cons (frame_Rest.sound n) (fns_cons (bytes_Join.sound n) fns_nil))))), cls_nil, sqs_nil, ems_nil, mixed, ons_nil⟩
theorem law16_FrameAll.eq (n : Nat) (x : pdens law16_FrameAll.ps) : Vi.run (law16_FrameAll.C n) n f13 law16_FrameAll.ps law16_FrameAll.rs x = law16_FrameAll n x := by kernel_rfl
theorem law16_FrameAll.sound (n : Nat) : SoundE prog 13 (law16_FrameAll.e n) :=
  soundE_of_run (C := law16_FrameAll.C n) (n := n) (law16_FrameAll.ok n) func13 (by kernel_rfl) (by kernel_rfl) (fun x r h => (law16_FrameAll.eq n x).trans h)
def law16_FrameAll.g (n : Nat) (x : pdens (law16_FrameAll.τs.map PTy.data)) : Option Bool := law16_FrameAll n x
theorem law16_FrameAll.soundN (n : Nat) : SoundE prog 13 ⟨law16_FrameAll.τs.map PTy.data, [.data .bool], law16_FrameAll.g n⟩ := law16_FrameAll.sound n

def slices_IndexFunc_Lbyte.rs : List RTy := [.data (.int .i64)]
def slices_IndexFunc_Lbyte.ps : List PTy := [.data (.slc (.slc (.int .u8))), .fnp [(.slc (.int .u8))] [.bool]]
noncomputable def slices_IndexFunc_Lbyte.e (n : Nat) : Ent := ⟨slices_IndexFunc_Lbyte.ps, slices_IndexFunc_Lbyte.rs, fun x => slices_IndexFunc_Lbyte n x.1 x.2⟩
noncomputable def slices_IndexFunc_Lbyte.C (n : Nat) : Ctx := { tab := tab, fts := fts, pts := pts, Γ := lookO [], Γc := lookO [], Γs := lookO [], Γm := lookO [], Γo := lookO [], ntmps := f78.ntmps, keep := Vi.look ([], []) [(2, ([0, 1, 7, 8], []))], pins := [] }
theorem slices_IndexFunc_Lbyte.ok (n : Nat) : CtxOk prog (slices_IndexFunc_Lbyte.C n) := ⟨types, ftsOk_, ptsOk_, fns_nil, cls_nil, sqs_nil, ems_nil, mixed, ons_nil⟩
noncomputable def slices_IndexFunc_Lbyte.code : Code := bodyOf f78
theorem slices_IndexFunc_Lbyte.l0.step (n : Nat) (m0 : Nat) (s_1 : (List (List Int))) (f_1 : ((List Int) → Option Bool)) (v7 : Int) (v8 : Int) : it (EmR.no _) (slices_IndexFunc_Lbyte.C n) n (Code.go slices_IndexFunc_Lbyte.code [1, 0, 1, 0, 0]) (blockK 0 (seqK (EmR.no _) (slices_IndexFunc_Lbyte.C n) n (Code.go slices_IndexFunc_Lbyte.code [1, 1]) (bodyK (slices_IndexFunc_Lbyte.C n) f78 slices_IndexFunc_Lbyte.rs))) (m0 + 1) ⟨[(0, .dat (.slc (.slc (.int .u8))) s_1), (1, .fn [(.slc (.int .u8))] [.bool] f_1), (7, .dat (.int .i64) v7), (8, .dat (.int .i64) v8)], []⟩ = slices_IndexFunc_Lbyte.s0 n (fun (v8' : Int) => it (EmR.no _) (slices_IndexFunc_Lbyte.C n) n (Code.go slices_IndexFunc_Lbyte.code [1, 0, 1, 0, 0]) (blockK 0 (seqK (EmR.no _) (slices_IndexFunc_Lbyte.C n) n (Code.go slices_IndexFunc_Lbyte.code [1, 1]) (bodyK (slices_IndexFunc_Lbyte.C n) f78 slices_IndexFunc_Lbyte.rs))) m0 ⟨[(0, .dat (.slc (.slc (.int .u8))) s_1), (1, .fn [(.slc (.int .u8))] [.bool] f_1), (7, .dat (.int .i64) v7), (8, .dat (.int .i64) (v8'))], []⟩) s_1 f_1 v7 v8 := by kernel_rfl
theorem slices_IndexFunc_Lbyte.l0.eq (n : Nat) (s_1 : (List (List Int))) (f_1 : ((List Int) → Option Bool)) (v7 : Int) : ∀ (m0 : Nat) (v8 : Int), it (EmR.no _) (slices_IndexFunc_Lbyte.C n) n (Code.go slices_IndexFunc_Lbyte.code [1, 0, 1, 0, 0]) (blockK 0 (seqK (EmR.no _) (slices_IndexFunc_Lbyte.C n) n (Code.go slices_IndexFunc_Lbyte.code [1, 1]) (bodyK (slices_IndexFunc_Lbyte.C n) f78 slices_IndexFunc_Lbyte.rs))) m0 ⟨[(0, .dat (.slc (.slc (.int .u8))) s_1), (1, .fn [(.slc (.int .u8))] [.bool] f_1), (7, .dat (.int .i64) v7), (8, .dat (.int .i64) v8)], []⟩ = slices_IndexFunc_Lbyte.l0 n s_1 f_1 v7 m0 v8
  | 0, _ => rfl
  | m0 + 1, v8 =>
    (slices_IndexFunc_Lbyte.l0.step n m0 s_1 f_1 v7 v8).trans (congr1 (fun k0 => slices_IndexFunc_Lbyte.s0 n k0 s_1 f_1 v7 v8) (funext fun v8' => slices_IndexFunc_Lbyte.l0.eq n s_1 f_1 v7 m0 v8'))
theorem slices_IndexFunc_Lbyte.run0 (n : Nat) (x : pdens slices_IndexFunc_Lbyte.ps) : Vi.run (slices_IndexFunc_Lbyte.C n) n f78 slices_IndexFunc_Lbyte.ps slices_IndexFunc_Lbyte.rs x = slices_IndexFunc_Lbyte.s n (fun (s_1' : (List (List Int))) (f_1' : ((List Int) → Option Bool)) (v7' : Int) (v8' : Int) => it (EmR.no _) (slices_IndexFunc_Lbyte.C n) n (Code.go slices_IndexFunc_Lbyte.code [1, 0, 1, 0, 0]) (blockK 0 (seqK (EmR.no _) (slices_IndexFunc_Lbyte.C n) n (Code.go slices_IndexFunc_Lbyte.code [1, 1]) (bodyK (slices_IndexFunc_Lbyte.C n) f78 slices_IndexFunc_Lbyte.rs))) n ⟨[(0, .dat (.slc (.slc (.int .u8))) (s_1')), (1, .fn [(.slc (.int .u8))] [.bool] (f_1')), (7, .dat (.int .i64) (v7')), (8, .dat (.int .i64) (v8'))], []⟩) x.1 x.2 := by kernel_rfl
theorem slices_IndexFunc_Lbyte.eq (n : Nat) (x : pdens slices_IndexFunc_Lbyte.ps) : Vi.run (slices_IndexFunc_Lbyte.C n) n f78 slices_IndexFunc_Lbyte.ps slices_IndexFunc_Lbyte.rs x = slices_IndexFunc_Lbyte n x.1 x.2 :=
  (slices_IndexFunc_Lbyte.run0 n x).trans (congr1 (fun k0 => slices_IndexFunc_Lbyte.s n k0 x.1 x.2) (funext fun s_1' => funext fun f_1' => funext fun v7' => funext fun v8' => slices_IndexFunc_Lbyte.l0.eq n s_1' f_1' v7' n v8'))
theorem slices_IndexFunc_Lbyte.sound (n : Nat) : SoundE prog 78 (slices_IndexFunc_Lbyte.e n) :=
  soundE_of_run (C := slices_IndexFunc_Lbyte.C n) (n := n) (slices_IndexFunc_Lbyte.ok n) func78 (by kernel_rfl) (by kernel_rfl) (fun x r h => (slices_IndexFunc_Lbyte.eq n x).trans h)

def slices_ContainsFunc_Lbyte.rs : List RTy := [.data .bool]
def slices_ContainsFunc_Lbyte.ps : List PTy := [.data (.slc (.slc (.int .u8))), .fnp [(.slc (.int .u8))] [.bool]]
noncomputable def slices_ContainsFunc_Lbyte.e (n : Nat) : Ent := ⟨slices_ContainsFunc_Lbyte.ps, slices_ContainsFunc_Lbyte.rs, fun x => slices_ContainsFunc_Lbyte n x.1 x.2⟩
noncomputable def slices_ContainsFunc_Lbyte.C (n : Nat) : Ctx := { tab := tab, fts := fts, pts := pts, Γ := lookO [(78, slices_IndexFunc_Lbyte.e n)], Γc := lookO [], Γs := lookO [], Γm := lookO [], Γo := lookO [], ntmps := f61.ntmps, keep := Vi.look ([], []) [], pins := [] }
theorem slices_ContainsFunc_Lbyte.ok (n : Nat) : CtxOk prog (slices_ContainsFunc_Lbyte.C n) := ⟨types, ftsOk_, ptsOk_, (fns_cons (slices_IndexFunc_Lbyte.sound n) fns_nil), cls_nil, sqs_nil, ems_nil, mixed, ons_nil⟩
theorem slices_ContainsFunc_Lbyte.eq (n : Nat) (x : pdens slices_ContainsFunc_Lbyte.ps) : Vi.run (slices_ContainsFunc_Lbyte.C n) n f61 slices_ContainsFunc_Lbyte.ps slices_ContainsFunc_Lbyte.rs x = slices_ContainsFunc_Lbyte n x.1 x.2 := by kernel_rfl
theorem slices_ContainsFunc_Lbyte.sound (n : Nat) : SoundE prog 61 (slices_ContainsFunc_Lbyte.e n) :=
  soundE_of_run (C := slices_ContainsFunc_Lbyte.C n) (n := n) (slices_ContainsFunc_Lbyte.ok n) func61 (by kernel_rfl) (by kernel_rfl) (fun x r h => (slices_ContainsFunc_Lbyte.eq n x).trans h)

def law16_FrameBack_1_c.rs : List Ty := [.bool]
def law16_FrameBack_1_c.ps : List Ty := [(.slc (.int .u8))]
def law16_FrameBack_1_c.caps : List PTy := []
noncomputable def law16_FrameBack_1_c.e (n : Nat) : Cl := ⟨law16_FrameBack_1_c.ps, law16_FrameBack_1_c.caps, law16_FrameBack_1_c.rs, fun x c => some (law16_FrameBack_1_c x)⟩
noncomputable def law16_FrameBack_1_c.C (n : Nat) : Ctx := { tab := tab, fts := fts, pts := pts, Γ := lookO [], Γc := lookO [], Γs := lookO [], Γm := lookO [], Γo := lookO [], ntmps := f62.ntmps, keep := Vi.look ([], []) [], pins := [] }
theorem law16_FrameBack_1_c.ok (n : Nat) : CtxOk prog (law16_FrameBack_1_c.C n) := ⟨types, ftsOk_, ptsOk_, fns_nil, cls_nil, sqs_nil, ems_nil, mixed, ons_nil⟩
theorem law16_FrameBack_1_c.eq (n : Nat) (x : dens law16_FrameBack_1_c.ps) (c : pdens law16_FrameBack_1_c.caps) : Vi.runC (law16_FrameBack_1_c.C n) n f62 law16_FrameBack_1_c.ps law16_FrameBack_1_c.caps law16_FrameBack_1_c.rs x c = some (law16_FrameBack_1_c x) := by kernel_rfl
theorem law16_FrameBack_1_c.sound (n : Nat) : SoundC prog 62 (law16_FrameBack_1_c.e n) :=
  soundC_of_run (C := law16_FrameBack_1_c.C n) (n := n) (law16_FrameBack_1_c.ok n) func62 (by kernel_rfl) (by kernel_rfl) (fun x c r h => (law16_FrameBack_1_c.eq n x c).trans h)

def law16_FrameBack.rs : List RTy := [.data .bool]
def law16_FrameBack.ps : List PTy := [.data (.int .u8), .data (.int .u32), .data (.slc (.slc (.int .u8))), .data (.slc (.int .u8))]
noncomputable def law16_FrameBack.e (n : Nat) : Ent := ⟨law16_FrameBack.ps, law16_FrameBack.rs, fun x => law16_FrameBack n x.1 x.2.1 x.2.2.1 x.2.2.2⟩
noncomputable def law16_FrameBack.C (n : Nat) : Ctx := { tab := tab, fts := fts, pts := pts, Γ := lookO [(35, bytes_Equal.e n), (50, law16_awake.e n), (51, frame_Head.e n), (55, slices_EqualFunc_Lbyte.e n), (56, frame_List.e n), (58, frame_Rest.e n), (60, bytes_Join.e n), (61, slices_ContainsFunc_Lbyte.e n)], Γc := lookO [(35, bytes_Equal_c.e n), (62, law16_FrameBack_1_c.e n)], Γs := lookO [], Γm := lookO [], Γo := lookO [], ntmps := f14.ntmps, keep := Vi.look ([], []) [(5, ([0, 1, 3, 9, 28, 29, 30], []))], pins := [] }
theorem law16_FrameBack.ok (n : Nat) : CtxOk prog (law16_FrameBack.C n) := ⟨types, ftsOk_, ptsOk_, (fns_cons (bytes_Equal.sound n) (fns_cons (law16_awake.sound n) (fns_cons (frame_Head.sound n) (fns_cons (slices_EqualFunc_Lbyte.sound n) (fns_cons (frame_List.sound n) (fns_cons (frame_Rest.sound n) (fns_cons (bytes_Join.sound n) (fns_cons (slices_ContainsFunc_Lbyte.sound n) fns_nil)))))))), (cls_cons (bytes_Equal_c.sound n) (cls_cons (law16_FrameBack_1_c.sound n) cls_nil)), sqs_nil, ems_nil, mixed, ons_nil⟩
noncomputable def law16_FrameBack.code : Code := bodyOf f14
theorem law16_FrameBack.l0.step (n : Nat) (m0 : Nat) (kind_1 : Int) (xid_1 : Int) (rest_1 : (List Int)) (l : (List (List Int))) (v28 : (List (List Int))) (v29 : Int) (v30 : Int) : it (EmR.no _) (law16_FrameBack.C n) n (Code.go law16_FrameBack.code [1, 1, 1, 0, 1, 0, 0]) (blockK 0 (seqK (EmR.no _) (law16_FrameBack.C n) n (Code.go law16_FrameBack.code [1, 1, 1, 1]) (bodyK (law16_FrameBack.C n) f14 law16_FrameBack.rs))) (m0 + 1) ⟨[(0, .dat (.int .u8) kind_1), (1, .dat (.int .u32) xid_1), (3, .dat (.slc (.int .u8)) rest_1), (9, .lst (.tip 100009 0) (.slc (.int .u8)) l), (28, .dat (.slc (.slc (.int .u8))) v28), (29, .dat (.int .i64) v29), (30, .dat (.int .i64) v30)], [(100009, .tok 0)]⟩ = law16_FrameBack.s0 n (fun (l' : (List (List Int))) (v30' : Int) => it (EmR.no _) (law16_FrameBack.C n) n (Code.go law16_FrameBack.code [1, 1, 1, 0, 1, 0, 0]) (blockK 0 (seqK (EmR.no _) (law16_FrameBack.C n) n (Code.go law16_FrameBack.code [1, 1, 1, 1]) (bodyK (law16_FrameBack.C n) f14 law16_FrameBack.rs))) m0 ⟨[(0, .dat (.int .u8) kind_1), (1, .dat (.int .u32) xid_1), (3, .dat (.slc (.int .u8)) rest_1), (9, .lst (.tip 100009 0) (.slc (.int .u8)) (l')), (28, .dat (.slc (.slc (.int .u8))) v28), (29, .dat (.int .i64) v29), (30, .dat (.int .i64) (v30'))], [(100009, .tok 0)]⟩) kind_1 xid_1 rest_1 l v28 v29 v30 := by kernel_rfl
theorem law16_FrameBack.l0.eq (n : Nat) (kind_1 : Int) (xid_1 : Int) (rest_1 : (List Int)) (v28 : (List (List Int))) (v29 : Int) : ∀ (m0 : Nat) (l : (List (List Int))) (v30 : Int), it (EmR.no _) (law16_FrameBack.C n) n (Code.go law16_FrameBack.code [1, 1, 1, 0, 1, 0, 0]) (blockK 0 (seqK (EmR.no _) (law16_FrameBack.C n) n (Code.go law16_FrameBack.code [1, 1, 1, 1]) (bodyK (law16_FrameBack.C n) f14 law16_FrameBack.rs))) m0 ⟨[(0, .dat (.int .u8) kind_1), (1, .dat (.int .u32) xid_1), (3, .dat (.slc (.int .u8)) rest_1), (9, .lst (.tip 100009 0) (.slc (.int .u8)) l), (28, .dat (.slc (.slc (.int .u8))) v28), (29, .dat (.int .i64) v29), (30, .dat (.int .i64) v30)], [(100009, .tok 0)]⟩ = law16_FrameBack.l0 n kind_1 xid_1 rest_1 v28 v29 m0 l v30
  | 0, _, _ => rfl
  | m0 + 1, l, v30 =>
    (law16_FrameBack.l0.step n m0 kind_1 xid_1 rest_1 l v28 v29 v30).trans (congr1 (fun k0 => law16_FrameBack.s0 n k0 kind_1 xid_1 rest_1 l v28 v29 v30) (funext fun l' => funext fun v30' => law16_FrameBack.l0.eq n kind_1 xid_1 rest_1 v28 v29 m0 l' v30'))
theorem law16_FrameBack.run0 (n : Nat) (x : pdens law16_FrameBack.ps) : Vi.run (law16_FrameBack.C n) n f14 law16_FrameBack.ps law16_FrameBack.rs x = law16_FrameBack.s n (fun (kind_1' : Int) (xid_1' : Int) (rest_1' : (List Int)) (l' : (List (List Int))) (v28' : (List (List Int))) (v29' : Int) (v30' : Int) => it (EmR.no _) (law16_FrameBack.C n) n (Code.go law16_FrameBack.code [1, 1, 1, 0, 1, 0, 0]) (blockK 0 (seqK (EmR.no _) (law16_FrameBack.C n) n (Code.go law16_FrameBack.code [1, 1, 1, 1]) (bodyK (law16_FrameBack.C n) f14 law16_FrameBack.rs))) n ⟨[(0, .dat (.int .u8) (kind_1')), (1, .dat (.int .u32) (xid_1')), (3, .dat (.slc (.int .u8)) (rest_1')), (9, .lst (.tip 100009 0) (.slc (.int .u8)) (l')), (28, .dat (.slc (.slc (.int .u8))) (v28')), (29, .dat (.int .i64) (v29')), (30, .dat (.int .i64) (v30'))], [(100009, .tok 0)]⟩) x.1 x.2.1 x.2.2.1 x.2.2.2 := by kernel_rfl
theorem law16_FrameBack.eq (n : Nat) (x : pdens law16_FrameBack.ps) : Vi.run (law16_FrameBack.C n) n f14 law16_FrameBack.ps law16_FrameBack.rs x = law16_FrameBack n x.1 x.2.1 x.2.2.1 x.2.2.2 :=
  (law16_FrameBack.run0 n x).trans (congr1 (fun k0 => law16_FrameBack.s n k0 x.1 x.2.1 x.2.2.1 x.2.2.2) (funext fun kind_1' => funext fun xid_1' => funext fun rest_1' => funext fun l' => funext fun v28' => funext fun v29' => funext fun v30' => law16_FrameBack.l0.eq n kind_1' xid_1' rest_1' v28' v29' n l' v30'))
theorem law16_FrameBack.sound (n : Nat) : SoundE prog 14 (law16_FrameBack.e n) :=
  soundE_of_run (C := law16_FrameBack.C n) (n := n) (law16_FrameBack.ok n) func14 (by kernel_rfl) (by kernel_rfl) (fun x r h => (law16_FrameBack.eq n x).trans h)
def law16_FrameBack.g (n : Nat) (x : pdens (law16_FrameBack.τs.map PTy.data)) : Option Bool := law16_FrameBack n x.1 x.2.1 x.2.2.1 x.2.2.2
theorem law16_FrameBack.soundN (n : Nat) : SoundE prog 14 ⟨law16_FrameBack.τs.map PTy.data, [.data .bool], law16_FrameBack.g n⟩ := law16_FrameBack.sound n

end Go.Fn
