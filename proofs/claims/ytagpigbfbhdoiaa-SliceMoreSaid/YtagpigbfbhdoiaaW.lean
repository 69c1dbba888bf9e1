/- That the functions compute what their native texts say: written by the session's program gen.py out of the translation. -/
import Derived.Test.YtagpigbfbhdoiaaViZ
import Derived.Test.YtagpigbfbhdoiaaN
import Derived.Test.YtagpigbfbhdoiaaProg
set_option linter.unusedVariables false
set_option maxRecDepth 100000
namespace Go.Fn
open Go Go.Vi Go.Proofs.Try

def tab : List (Nat × TE) := [(3, ⟨(.int .i64), 0, 0⟩), (4, ⟨.bool, 0, 0⟩), (5, ⟨(.int .u8), 0, 0⟩), (22, ⟨(.slc TRule), 0, 792⟩), (23, ⟨(.slc TGroup), 0, 40⟩), (25, ⟨TFlat, 2, 0⟩), (26, ⟨(.int .u64), 0, 0⟩), (28, ⟨TWide, 2, 0⟩), (30, ⟨THeader, 0, 0⟩), (33, ⟨(.slc (.slc TCube)), 0, 24⟩), (34, ⟨(.int .i64), 0, 0⟩), (39, ⟨(.slc TCube), 0, 768⟩), (41, ⟨TTern, 2, 0⟩), (43, ⟨TCube, 0, 0⟩), (49, ⟨(.int .u32), 0, 0⟩), (68, ⟨(.slc TBucket), 0, 48⟩), (82, ⟨TGroup, 3, 0⟩), (83, ⟨(.slc (.int .i64)), 0, 8⟩), (99, ⟨(.slc TAtom), 0, 792⟩), (101, ⟨TRule, 2, 0⟩), (109, ⟨TPurse, 2, 0⟩), (111, ⟨TLook, 1, 0⟩), (120, ⟨THeap, 2, 0⟩), (128, ⟨TOxm, 4, 0⟩), (130, ⟨TAction, 6, 0⟩), (131, ⟨(.slc TAction), 0, 88⟩), (133, ⟨TBucket, 4, 0⟩), (197, ⟨(.int .u64), 0, 0⟩), (199, ⟨(.arr 2 (.int .u64)), 0, 0⟩), (216, ⟨TCube, 0, 0⟩), (218, ⟨TAtom, 4, 0⟩)]
def fts : List Nat := []
def pts : List Nat := [107, 117]
theorem tabOk_ : tabOk prog tab = true := by kernel_rfl
theorem types : Types prog tab := Types.of tabOk_
theorem ftsOk_ : ftsOk prog fts = true := by kernel_rfl
theorem ptsOk_ : ptsOk prog pts = true := by kernel_rfl
theorem mixed : prog.follows .mixedOrders = true := by kernel_rfl

def ref02_And.rs : List RTy := [.data TWide]
def ref02_And.ps : List PTy := [.data TWide, .data TWide]
noncomputable def ref02_And.e (n : Nat) : Ent := ⟨ref02_And.ps, ref02_And.rs, fun x => some (ref02_And x.1 x.2)⟩
noncomputable def ref02_And.C (n : Nat) : Ctx := { tab := tab, fts := fts, pts := pts, Γ := lookO [], Γc := lookO [], Γs := lookO [], Γm := lookO [], Γo := lookO [], ntmps := f159.ntmps, keep := Vi.look ([], []) [], pins := [] }
theorem ref02_And.ok (n : Nat) : CtxOk prog (ref02_And.C n) := ⟨types, ftsOk_, ptsOk_, fns_nil, cls_nil, sqs_nil, ems_nil, mixed, ons_nil⟩
theorem ref02_And.eq (n : Nat) (x : pdens ref02_And.ps) : Vi.run (ref02_And.C n) n f159 ref02_And.ps ref02_And.rs x = some (ref02_And x.1 x.2) := by kernel_rfl
theorem ref02_And.sound (n : Nat) : SoundE prog 159 (ref02_And.e n) :=
  soundE_of_run (C := ref02_And.C n) (n := n) (ref02_And.ok n) func159 (by kernel_rfl) (by kernel_rfl) (fun x r h => (ref02_And.eq n x).trans h)

def ref02_Xor.rs : List RTy := [.data TWide]
def ref02_Xor.ps : List PTy := [.data TWide, .data TWide]
noncomputable def ref02_Xor.e (n : Nat) : Ent := ⟨ref02_Xor.ps, ref02_Xor.rs, fun x => some (ref02_Xor x.1 x.2)⟩
noncomputable def ref02_Xor.C (n : Nat) : Ctx := { tab := tab, fts := fts, pts := pts, Γ := lookO [], Γc := lookO [], Γs := lookO [], Γm := lookO [], Γo := lookO [], ntmps := f161.ntmps, keep := Vi.look ([], []) [], pins := [] }
theorem ref02_Xor.ok (n : Nat) : CtxOk prog (ref02_Xor.C n) := ⟨types, ftsOk_, ptsOk_, fns_nil, cls_nil, sqs_nil, ems_nil, mixed, ons_nil⟩
theorem ref02_Xor.eq (n : Nat) (x : pdens ref02_Xor.ps) : Vi.run (ref02_Xor.C n) n f161 ref02_Xor.ps ref02_Xor.rs x = some (ref02_Xor x.1 x.2) := by kernel_rfl
theorem ref02_Xor.sound (n : Nat) : SoundE prog 161 (ref02_Xor.e n) :=
  soundE_of_run (C := ref02_Xor.C n) (n := n) (ref02_Xor.ok n) func161 (by kernel_rfl) (by kernel_rfl) (fun x r h => (ref02_Xor.eq n x).trans h)

def ref02_Zero.rs : List RTy := [.data .bool]
def ref02_Zero.ps : List PTy := [.data TWide]
noncomputable def ref02_Zero.e (n : Nat) : Ent := ⟨ref02_Zero.ps, ref02_Zero.rs, fun x => some (ref02_Zero x)⟩
noncomputable def ref02_Zero.C (n : Nat) : Ctx := { tab := tab, fts := fts, pts := pts, Γ := lookO [], Γc := lookO [], Γs := lookO [], Γm := lookO [], Γo := lookO [], ntmps := f160.ntmps, keep := Vi.look ([], []) [], pins := [] }
theorem ref02_Zero.ok (n : Nat) : CtxOk prog (ref02_Zero.C n) := ⟨types, ftsOk_, ptsOk_, fns_nil, cls_nil, sqs_nil, ems_nil, mixed, ons_nil⟩
theorem ref02_Zero.run0 (n : Nat) (x : pdens ref02_Zero.ps) : Vi.run (ref02_Zero.C n) n f160 ref02_Zero.ps ref02_Zero.rs x = ref02_Zero.o x := by kernel_rfl
theorem ref02_Zero.eq (n : Nat) (x : pdens ref02_Zero.ps) : Vi.run (ref02_Zero.C n) n f160 ref02_Zero.ps ref02_Zero.rs x = some (ref02_Zero x) := (ref02_Zero.run0 n x).trans (ref02_Zero.o_eq _)
theorem ref02_Zero.sound (n : Nat) : SoundE prog 160 (ref02_Zero.e n) :=
  soundE_of_run (C := ref02_Zero.C n) (n := n) (ref02_Zero.ok n) func160 (by kernel_rfl) (by kernel_rfl) (fun x r h => (ref02_Zero.eq n x).trans h)

def ref05_Clean.rs : List RTy := [.data TTern]
def ref05_Clean.ps : List PTy := [.data TTern]
noncomputable def ref05_Clean.e (n : Nat) : Ent := ⟨ref05_Clean.ps, ref05_Clean.rs, fun x => some (ref05_Clean x)⟩
noncomputable def ref05_Clean.C (n : Nat) : Ctx := { tab := tab, fts := fts, pts := pts, Γ := lookO [(159, ref02_And.e n)], Γc := lookO [], Γs := lookO [], Γm := lookO [], Γo := lookO [], ntmps := f127.ntmps, keep := Vi.look ([], []) [], pins := [] }
theorem ref05_Clean.ok (n : Nat) : CtxOk prog (ref05_Clean.C n) := ⟨types, ftsOk_, ptsOk_, (fns_cons (ref02_And.sound n) fns_nil), cls_nil, sqs_nil, ems_nil, mixed, ons_nil⟩
theorem ref05_Clean.eq (n : Nat) (x : pdens ref05_Clean.ps) : Vi.run (ref05_Clean.C n) n f127 ref05_Clean.ps ref05_Clean.rs x = some (ref05_Clean x) := by kernel_rfl
theorem ref05_Clean.sound (n : Nat) : SoundE prog 127 (ref05_Clean.e n) :=
  soundE_of_run (C := ref05_Clean.C n) (n := n) (ref05_Clean.ok n) func127 (by kernel_rfl) (by kernel_rfl) (fun x r h => (ref05_Clean.eq n x).trans h)

def ref02_Or.rs : List RTy := [.data TWide]
def ref02_Or.ps : List PTy := [.data TWide, .data TWide]
noncomputable def ref02_Or.e (n : Nat) : Ent := ⟨ref02_Or.ps, ref02_Or.rs, fun x => some (ref02_Or x.1 x.2)⟩
noncomputable def ref02_Or.C (n : Nat) : Ctx := { tab := tab, fts := fts, pts := pts, Γ := lookO [], Γc := lookO [], Γs := lookO [], Γm := lookO [], Γo := lookO [], ntmps := f163.ntmps, keep := Vi.look ([], []) [], pins := [] }
theorem ref02_Or.ok (n : Nat) : CtxOk prog (ref02_Or.C n) := ⟨types, ftsOk_, ptsOk_, fns_nil, cls_nil, sqs_nil, ems_nil, mixed, ons_nil⟩
theorem ref02_Or.eq (n : Nat) (x : pdens ref02_Or.ps) : Vi.run (ref02_Or.C n) n f163 ref02_Or.ps ref02_Or.rs x = some (ref02_Or x.1 x.2) := by kernel_rfl
theorem ref02_Or.sound (n : Nat) : SoundE prog 163 (ref02_Or.e n) :=
  soundE_of_run (C := ref02_Or.C n) (n := n) (ref02_Or.ok n) func163 (by kernel_rfl) (by kernel_rfl) (fun x r h => (ref02_Or.eq n x).trans h)

def ref05_Meet.rs : List RTy := [.data TTern, .data .bool]
def ref05_Meet.ps : List PTy := [.data TTern, .data TTern]
noncomputable def ref05_Meet.e (n : Nat) : Ent := ⟨ref05_Meet.ps, ref05_Meet.rs, fun x => some (ref05_Meet x.1 x.2)⟩
noncomputable def ref05_Meet.C (n : Nat) : Ctx := { tab := tab, fts := fts, pts := pts, Γ := lookO [(127, ref05_Clean.e n), (159, ref02_And.e n), (160, ref02_Zero.e n), (161, ref02_Xor.e n), (163, ref02_Or.e n)], Γc := lookO [], Γs := lookO [], Γm := lookO [], Γo := lookO [], ntmps := f131.ntmps, keep := Vi.look ([], []) [], pins := [] }
theorem ref05_Meet.ok (n : Nat) : CtxOk prog (ref05_Meet.C n) := ⟨types, ftsOk_, ptsOk_, (fns_cons (ref05_Clean.sound n) (fns_cons (ref02_And.sound n) (fns_cons (ref02_Zero.sound n) (fns_cons (ref02_Xor.sound n) (fns_cons (ref02_Or.sound n) fns_nil))))), cls_nil, sqs_nil, ems_nil, mixed, ons_nil⟩
theorem ref05_Meet.run0 (n : Nat) (x : pdens ref05_Meet.ps) : Vi.run (ref05_Meet.C n) n f131 ref05_Meet.ps ref05_Meet.rs x = ref05_Meet.o x.1 x.2 := by kernel_rfl
theorem ref05_Meet.eq (n : Nat) (x : pdens ref05_Meet.ps) : Vi.run (ref05_Meet.C n) n f131 ref05_Meet.ps ref05_Meet.rs x = some (ref05_Meet x.1 x.2) := (ref05_Meet.run0 n x).trans (ref05_Meet.o_eq _ _)
theorem ref05_Meet.sound (n : Nat) : SoundE prog 131 (ref05_Meet.e n) :=
  soundE_of_run (C := ref05_Meet.C n) (n := n) (ref05_Meet.ok n) func131 (by kernel_rfl) (by kernel_rfl) (fun x r h => (ref05_Meet.eq n x).trans h)

def ref06_Meet.rs : List RTy := [.data TCube, .data .bool]
def ref06_Meet.ps : List PTy := [.data TCube, .data TCube]
noncomputable def ref06_Meet.e (n : Nat) : Ent := ⟨ref06_Meet.ps, ref06_Meet.rs, fun x => ref06_Meet n x.1 x.2⟩
noncomputable def ref06_Meet.C (n : Nat) : Ctx := { tab := tab, fts := fts, pts := pts, Γ := lookO [(131, ref05_Meet.e n)], Γc := lookO [], Γs := lookO [], Γm := lookO [], Γo := lookO [], ntmps := f82.ntmps, keep := Vi.look ([], []) [(3, ([2, 3, 4, 6, 7], [2, 3, 4, 6]))], pins := [] }
theorem ref06_Meet.ok (n : Nat) : CtxOk prog (ref06_Meet.C n) := ⟨types, ftsOk_, ptsOk_, (fns_cons (ref05_Meet.sound n) fns_nil), cls_nil, sqs_nil, ems_nil, mixed, ons_nil⟩
noncomputable def ref06_Meet.code : Code := bodyOf f82
theorem ref06_Meet.l0.step (n : Nat) (m0 : Nat) (f : Int) (a_1 : Cube) (b_1 : Cube) (v4 : Cube) (c : Cube) : it (EmR.no _) (ref06_Meet.C n) n (Code.go ref06_Meet.code [1, 1, 0, 1, 0, 0]) (blockK 0 (seqK (EmR.no _) (ref06_Meet.C n) n (Code.go ref06_Meet.code [1, 1, 1]) (bodyK (ref06_Meet.C n) f82 ref06_Meet.rs))) (m0 + 1) ⟨[(2, .ptr 2 0 TCube []), (3, .ptr 3 0 TCube []), (4, .ptr 4 0 TCube []), (6, .ptr 6 0 TCube []), (7, .dat (.int .i64) f)], [(2, .box 0 false (.dat TCube a_1)), (3, .box 0 false (.dat TCube b_1)), (4, .box 0 false (.dat TCube v4)), (6, .box 0 false (.dat TCube c))]⟩ = ref06_Meet.s0 n (fun (f' : Int) (c' : Cube) => it (EmR.no _) (ref06_Meet.C n) n (Code.go ref06_Meet.code [1, 1, 0, 1, 0, 0]) (blockK 0 (seqK (EmR.no _) (ref06_Meet.C n) n (Code.go ref06_Meet.code [1, 1, 1]) (bodyK (ref06_Meet.C n) f82 ref06_Meet.rs))) m0 ⟨[(2, .ptr 2 0 TCube []), (3, .ptr 3 0 TCube []), (4, .ptr 4 0 TCube []), (6, .ptr 6 0 TCube []), (7, .dat (.int .i64) (f'))], [(2, .box 0 false (.dat TCube a_1)), (3, .box 0 false (.dat TCube b_1)), (4, .box 0 false (.dat TCube v4)), (6, .box 0 false (.dat TCube (c')))]⟩) f a_1 b_1 v4 c := by kernel_rfl
theorem ref06_Meet.l0.eq (n : Nat) (a_1 : Cube) (b_1 : Cube) (v4 : Cube) : ∀ (m0 : Nat) (f : Int) (c : Cube), it (EmR.no _) (ref06_Meet.C n) n (Code.go ref06_Meet.code [1, 1, 0, 1, 0, 0]) (blockK 0 (seqK (EmR.no _) (ref06_Meet.C n) n (Code.go ref06_Meet.code [1, 1, 1]) (bodyK (ref06_Meet.C n) f82 ref06_Meet.rs))) m0 ⟨[(2, .ptr 2 0 TCube []), (3, .ptr 3 0 TCube []), (4, .ptr 4 0 TCube []), (6, .ptr 6 0 TCube []), (7, .dat (.int .i64) f)], [(2, .box 0 false (.dat TCube a_1)), (3, .box 0 false (.dat TCube b_1)), (4, .box 0 false (.dat TCube v4)), (6, .box 0 false (.dat TCube c))]⟩ = ref06_Meet.l0 n a_1 b_1 v4 m0 f c
  | 0, _, _ => rfl
  | m0 + 1, f, c =>
    (ref06_Meet.l0.step n m0 f a_1 b_1 v4 c).trans (congr1 (fun k0 => ref06_Meet.s0 n k0 f a_1 b_1 v4 c) (funext fun f' => funext fun c' => ref06_Meet.l0.eq n a_1 b_1 v4 m0 f' c'))
theorem ref06_Meet.run0 (n : Nat) (x : pdens ref06_Meet.ps) : Vi.run (ref06_Meet.C n) n f82 ref06_Meet.ps ref06_Meet.rs x = ref06_Meet.s n (fun (f' : Int) (a_1' : Cube) (b_1' : Cube) (v4' : Cube) (c' : Cube) => it (EmR.no _) (ref06_Meet.C n) n (Code.go ref06_Meet.code [1, 1, 0, 1, 0, 0]) (blockK 0 (seqK (EmR.no _) (ref06_Meet.C n) n (Code.go ref06_Meet.code [1, 1, 1]) (bodyK (ref06_Meet.C n) f82 ref06_Meet.rs))) n ⟨[(2, .ptr 2 0 TCube []), (3, .ptr 3 0 TCube []), (4, .ptr 4 0 TCube []), (6, .ptr 6 0 TCube []), (7, .dat (.int .i64) (f'))], [(2, .box 0 false (.dat TCube (a_1'))), (3, .box 0 false (.dat TCube (b_1'))), (4, .box 0 false (.dat TCube (v4'))), (6, .box 0 false (.dat TCube (c')))]⟩) x.1 x.2 := by kernel_rfl
theorem ref06_Meet.eq (n : Nat) (x : pdens ref06_Meet.ps) : Vi.run (ref06_Meet.C n) n f82 ref06_Meet.ps ref06_Meet.rs x = ref06_Meet n x.1 x.2 :=
  (ref06_Meet.run0 n x).trans (congr1 (fun k0 => ref06_Meet.s n k0 x.1 x.2) (funext fun f' => funext fun a_1' => funext fun b_1' => funext fun v4' => funext fun c' => ref06_Meet.l0.eq n a_1' b_1' v4' n f' c'))
theorem ref06_Meet.sound (n : Nat) : SoundE prog 82 (ref06_Meet.e n) :=
  soundE_of_run (C := ref06_Meet.C n) (n := n) (ref06_Meet.ok n) func82 (by kernel_rfl) (by kernel_rfl) (fun x r h => (ref06_Meet.eq n x).trans h)

def ref08_Meets.rs : List RTy := [.fresh TCube]
def ref08_Meets.ps : List PTy := [.data TCube, .data (.slc TCube)]
noncomputable def ref08_Meets.e (n : Nat) : Ent := ⟨ref08_Meets.ps, ref08_Meets.rs, fun x => ref08_Meets n x.1 x.2⟩
noncomputable def ref08_Meets.C (n : Nat) : Ctx := { tab := tab, fts := fts, pts := pts, Γ := lookO [(82, ref06_Meet.e n)], Γc := lookO [], Γs := lookO [], Γm := lookO [], Γo := lookO [], ntmps := f34.ntmps, keep := Vi.look ([], []) [(3, ([1, 2, 5, 6], [2]))], pins := [], cold := [2] }
theorem ref08_Meets.ok (n : Nat) : CtxOk prog (ref08_Meets.C n) := ⟨types, ftsOk_, ptsOk_, (fns_cons (ref06_Meet.sound n) fns_nil), cls_nil, sqs_nil, ems_nil, mixed, ons_nil⟩
noncomputable def ref08_Meets.code : Code := bodyOf f34
theorem ref08_Meets.l0.step (n : Nat) (m0 : Nat) (l_1 : (List Cube)) (out : (List Cube)) (i : Int) (c_1 : Cube) : it (EmR.no _) (ref08_Meets.C n) n (Code.go ref08_Meets.code [1, 1, 0, 1, 0, 0]) (blockK 0 (seqK (EmR.no _) (ref08_Meets.C n) n (Code.go ref08_Meets.code [1, 1, 1]) (bodyK (ref08_Meets.C n) f34 ref08_Meets.rs))) (m0 + 1) ⟨[(1, .dat (.slc TCube) l_1), (2, .ptr 2 0 TCube []), (5, .lst (.tip 100005 0) TCube out), (6, .dat (.int .i64) i)], [(100005, .tok 0), (2, .box 0 true (.dat TCube c_1))]⟩ = ref08_Meets.s0 n (fun (out' : (List Cube)) (i' : Int) => it (EmR.no _) (ref08_Meets.C n) n (Code.go ref08_Meets.code [1, 1, 0, 1, 0, 0]) (blockK 0 (seqK (EmR.no _) (ref08_Meets.C n) n (Code.go ref08_Meets.code [1, 1, 1]) (bodyK (ref08_Meets.C n) f34 ref08_Meets.rs))) m0 ⟨[(1, .dat (.slc TCube) l_1), (2, .ptr 2 0 TCube []), (5, .lst (.tip 100005 0) TCube (out')), (6, .dat (.int .i64) (i'))], [(100005, .tok 0), (2, .box 0 true (.dat TCube c_1))]⟩) l_1 out i c_1 := by kernel_rfl
theorem ref08_Meets.l0.eq (n : Nat) (l_1 : (List Cube)) (c_1 : Cube) : ∀ (m0 : Nat) (out : (List Cube)) (i : Int), it (EmR.no _) (ref08_Meets.C n) n (Code.go ref08_Meets.code [1, 1, 0, 1, 0, 0]) (blockK 0 (seqK (EmR.no _) (ref08_Meets.C n) n (Code.go ref08_Meets.code [1, 1, 1]) (bodyK (ref08_Meets.C n) f34 ref08_Meets.rs))) m0 ⟨[(1, .dat (.slc TCube) l_1), (2, .ptr 2 0 TCube []), (5, .lst (.tip 100005 0) TCube out), (6, .dat (.int .i64) i)], [(100005, .tok 0), (2, .box 0 true (.dat TCube c_1))]⟩ = ref08_Meets.l0 n l_1 c_1 m0 out i
  | 0, _, _ => rfl
  | m0 + 1, out, i =>
    (ref08_Meets.l0.step n m0 l_1 out i c_1).trans (congr1 (fun k0 => ref08_Meets.s0 n k0 l_1 out i c_1) (funext fun out' => funext fun i' => ref08_Meets.l0.eq n l_1 c_1 m0 out' i'))
theorem ref08_Meets.run0 (n : Nat) (x : pdens ref08_Meets.ps) : Vi.run (ref08_Meets.C n) n f34 ref08_Meets.ps ref08_Meets.rs x = ref08_Meets.s n (fun (l_1' : (List Cube)) (out' : (List Cube)) (i' : Int) (c_1' : Cube) => it (EmR.no _) (ref08_Meets.C n) n (Code.go ref08_Meets.code [1, 1, 0, 1, 0, 0]) (blockK 0 (seqK (EmR.no _) (ref08_Meets.C n) n (Code.go ref08_Meets.code [1, 1, 1]) (bodyK (ref08_Meets.C n) f34 ref08_Meets.rs))) n ⟨[(1, .dat (.slc TCube) (l_1')), (2, .ptr 2 0 TCube []), (5, .lst (.tip 100005 0) TCube (out')), (6, .dat (.int .i64) (i'))], [(100005, .tok 0), (2, .box 0 true (.dat TCube (c_1')))]⟩) x.1 x.2 := by kernel_rfl
theorem ref08_Meets.eq (n : Nat) (x : pdens ref08_Meets.ps) : Vi.run (ref08_Meets.C n) n f34 ref08_Meets.ps ref08_Meets.rs x = ref08_Meets n x.1 x.2 :=
  (ref08_Meets.run0 n x).trans (congr1 (fun k0 => ref08_Meets.s n k0 x.1 x.2) (funext fun l_1' => funext fun out' => funext fun i' => funext fun c_1' => ref08_Meets.l0.eq n l_1' c_1' n out' i'))
theorem ref08_Meets.sound (n : Nat) : SoundE prog 34 (ref08_Meets.e n) :=
  soundE_of_run (C := ref08_Meets.C n) (n := n) (ref08_Meets.ok n) func34 (by kernel_rfl) (by kernel_rfl) (fun x r h => (ref08_Meets.eq n x).trans h)

def ref02_Bit.rs : List RTy := [.data TWide]
def ref02_Bit.ps : List PTy := [.data (.int .i64)]
noncomputable def ref02_Bit.e (n : Nat) : Ent := ⟨ref02_Bit.ps, ref02_Bit.rs, fun x => ref02_Bit x⟩
noncomputable def ref02_Bit.C (n : Nat) : Ctx := { tab := tab, fts := fts, pts := pts, Γ := lookO [], Γc := lookO [], Γs := lookO [], Γm := lookO [], Γo := lookO [], ntmps := f175.ntmps, keep := Vi.look ([], []) [], pins := [] }
theorem ref02_Bit.ok (n : Nat) : CtxOk prog (ref02_Bit.C n) := ⟨types, ftsOk_, ptsOk_, fns_nil, cls_nil, sqs_nil, ems_nil, mixed, ons_nil⟩
theorem ref02_Bit.eq (n : Nat) (x : pdens ref02_Bit.ps) : Vi.run (ref02_Bit.C n) n f175 ref02_Bit.ps ref02_Bit.rs x = ref02_Bit x := by kernel_rfl
theorem ref02_Bit.sound (n : Nat) : SoundE prog 175 (ref02_Bit.e n) :=
  soundE_of_run (C := ref02_Bit.C n) (n := n) (ref02_Bit.ok n) func175 (by kernel_rfl) (by kernel_rfl) (fun x r h => (ref02_Bit.eq n x).trans h)

def ref02_Has.rs : List RTy := [.data .bool]
def ref02_Has.ps : List PTy := [.data TWide, .data (.int .i64)]
noncomputable def ref02_Has.e (n : Nat) : Ent := ⟨ref02_Has.ps, ref02_Has.rs, fun x => ref02_Has x.1 x.2⟩
noncomputable def ref02_Has.C (n : Nat) : Ctx := { tab := tab, fts := fts, pts := pts, Γ := lookO [(159, ref02_And.e n), (160, ref02_Zero.e n), (175, ref02_Bit.e n)], Γc := lookO [], Γs := lookO [], Γm := lookO [], Γo := lookO [], ntmps := f156.ntmps, keep := Vi.look ([], []) [], pins := [], cold := [2] }
theorem ref02_Has.ok (n : Nat) : CtxOk prog (ref02_Has.C n) := ⟨types, ftsOk_, ptsOk_, (fns_cons (ref02_And.sound n) (fns_cons (ref02_Zero.sound n) (fns_cons (ref02_Bit.sound n) fns_nil))), cls_nil, sqs_nil, ems_nil, mixed, ons_nil⟩
theorem ref02_Has.eq (n : Nat) (x : pdens ref02_Has.ps) : Vi.run (ref02_Has.C n) n f156 ref02_Has.ps ref02_Has.rs x = ref02_Has x.1 x.2 := by kernel_rfl
theorem ref02_Has.sound (n : Nat) : SoundE prog 156 (ref02_Has.e n) :=
  soundE_of_run (C := ref02_Has.C n) (n := n) (ref02_Has.ok n) func156 (by kernel_rfl) (by kernel_rfl) (fun x r h => (ref02_Has.eq n x).trans h)

def ref02_Many.rs : List RTy := [.data (.int .i64)]
def ref02_Many.ps : List PTy := [.data TWide]
noncomputable def ref02_Many.e (n : Nat) : Ent := ⟨ref02_Many.ps, ref02_Many.rs, fun x => ref02_Many n x⟩
noncomputable def ref02_Many.C (n : Nat) : Ctx := { tab := tab, fts := fts, pts := pts, Γ := lookO [(156, ref02_Has.e n)], Γc := lookO [], Γs := lookO [], Γm := lookO [], Γo := lookO [], ntmps := f132.ntmps, keep := Vi.look ([], []) [(3, ([1, 3, 4], [1]))], pins := [], cold := [1] }
theorem ref02_Many.ok (n : Nat) : CtxOk prog (ref02_Many.C n) := ⟨types, ftsOk_, ptsOk_, (fns_cons (ref02_Has.sound n) fns_nil), cls_nil, sqs_nil, ems_nil, mixed, ons_nil⟩
noncomputable def ref02_Many.code : Code := bodyOf f132
theorem ref02_Many.l0.step (n : Nat) (m0 : Nat) (n3 : Int) (i : Int) (a_1 : Wide) : it (EmR.no _) (ref02_Many.C n) n (Code.go ref02_Many.code [1, 1, 0, 1, 0, 0]) (blockK 0 (seqK (EmR.no _) (ref02_Many.C n) n (Code.go ref02_Many.code [1, 1, 1]) (bodyK (ref02_Many.C n) f132 ref02_Many.rs))) (m0 + 1) ⟨[(1, .ptr 1 0 TWide []), (3, .dat (.int .i64) n3), (4, .dat (.int .i64) i)], [(1, .box 0 true (.dat TWide a_1))]⟩ = ref02_Many.s0 n (fun (n3' : Int) (i' : Int) => it (EmR.no _) (ref02_Many.C n) n (Code.go ref02_Many.code [1, 1, 0, 1, 0, 0]) (blockK 0 (seqK (EmR.no _) (ref02_Many.C n) n (Code.go ref02_Many.code [1, 1, 1]) (bodyK (ref02_Many.C n) f132 ref02_Many.rs))) m0 ⟨[(1, .ptr 1 0 TWide []), (3, .dat (.int .i64) (n3')), (4, .dat (.int .i64) (i'))], [(1, .box 0 true (.dat TWide a_1))]⟩) n3 i a_1 := by kernel_rfl
theorem ref02_Many.l0.eq (n : Nat) (a_1 : Wide) : ∀ (m0 : Nat) (n3 : Int) (i : Int), it (EmR.no _) (ref02_Many.C n) n (Code.go ref02_Many.code [1, 1, 0, 1, 0, 0]) (blockK 0 (seqK (EmR.no _) (ref02_Many.C n) n (Code.go ref02_Many.code [1, 1, 1]) (bodyK (ref02_Many.C n) f132 ref02_Many.rs))) m0 ⟨[(1, .ptr 1 0 TWide []), (3, .dat (.int .i64) n3), (4, .dat (.int .i64) i)], [(1, .box 0 true (.dat TWide a_1))]⟩ = ref02_Many.l0 n a_1 m0 n3 i
  | 0, _, _ => rfl
  | m0 + 1, n3, i =>
    (ref02_Many.l0.step n m0 n3 i a_1).trans (congr1 (fun k0 => ref02_Many.s0 n k0 n3 i a_1) (funext fun n3' => funext fun i' => ref02_Many.l0.eq n a_1 m0 n3' i'))
theorem ref02_Many.run0 (n : Nat) (x : pdens ref02_Many.ps) : Vi.run (ref02_Many.C n) n f132 ref02_Many.ps ref02_Many.rs x = ref02_Many.s n (fun (n3' : Int) (i' : Int) (a_1' : Wide) => it (EmR.no _) (ref02_Many.C n) n (Code.go ref02_Many.code [1, 1, 0, 1, 0, 0]) (blockK 0 (seqK (EmR.no _) (ref02_Many.C n) n (Code.go ref02_Many.code [1, 1, 1]) (bodyK (ref02_Many.C n) f132 ref02_Many.rs))) n ⟨[(1, .ptr 1 0 TWide []), (3, .dat (.int .i64) (n3')), (4, .dat (.int .i64) (i'))], [(1, .box 0 true (.dat TWide (a_1')))]⟩) x := by kernel_rfl
theorem ref02_Many.eq (n : Nat) (x : pdens ref02_Many.ps) : Vi.run (ref02_Many.C n) n f132 ref02_Many.ps ref02_Many.rs x = ref02_Many n x :=
  (ref02_Many.run0 n x).trans (congr1 (fun k0 => ref02_Many.s n k0 x) (funext fun n3' => funext fun i' => funext fun a_1' => ref02_Many.l0.eq n a_1' n n3' i'))
theorem ref02_Many.sound (n : Nat) : SoundE prog 132 (ref02_Many.e n) :=
  soundE_of_run (C := ref02_Many.C n) (n := n) (ref02_Many.ok n) func132 (by kernel_rfl) (by kernel_rfl) (fun x r h => (ref02_Many.eq n x).trans h)

def ref06_Size.rs : List RTy := [.data (.int .i64)]
def ref06_Size.ps : List PTy := [.data TCube]
noncomputable def ref06_Size.e (n : Nat) : Ent := ⟨ref06_Size.ps, ref06_Size.rs, fun x => ref06_Size n x⟩
noncomputable def ref06_Size.C (n : Nat) : Ctx := { tab := tab, fts := fts, pts := pts, Γ := lookO [(132, ref02_Many.e n)], Γc := lookO [], Γs := lookO [], Γm := lookO [], Γo := lookO [], ntmps := f83.ntmps, keep := Vi.look ([], []) [(3, ([1, 3, 4], [1]))], pins := [] }
theorem ref06_Size.ok (n : Nat) : CtxOk prog (ref06_Size.C n) := ⟨types, ftsOk_, ptsOk_, (fns_cons (ref02_Many.sound n) fns_nil), cls_nil, sqs_nil, ems_nil, mixed, ons_nil⟩
noncomputable def ref06_Size.code : Code := bodyOf f83
theorem ref06_Size.l0.step (n : Nat) (m0 : Nat) (n3 : Int) (f : Int) (c_1 : Cube) : it (EmR.no _) (ref06_Size.C n) n (Code.go ref06_Size.code [1, 1, 0, 1, 0, 0]) (blockK 0 (seqK (EmR.no _) (ref06_Size.C n) n (Code.go ref06_Size.code [1, 1, 1]) (bodyK (ref06_Size.C n) f83 ref06_Size.rs))) (m0 + 1) ⟨[(1, .ptr 1 0 TCube []), (3, .dat (.int .i64) n3), (4, .dat (.int .i64) f)], [(1, .box 0 false (.dat TCube c_1))]⟩ = ref06_Size.s0 n (fun (n3' : Int) (f' : Int) => it (EmR.no _) (ref06_Size.C n) n (Code.go ref06_Size.code [1, 1, 0, 1, 0, 0]) (blockK 0 (seqK (EmR.no _) (ref06_Size.C n) n (Code.go ref06_Size.code [1, 1, 1]) (bodyK (ref06_Size.C n) f83 ref06_Size.rs))) m0 ⟨[(1, .ptr 1 0 TCube []), (3, .dat (.int .i64) (n3')), (4, .dat (.int .i64) (f'))], [(1, .box 0 false (.dat TCube c_1))]⟩) n3 f c_1 := by kernel_rfl
theorem ref06_Size.l0.eq (n : Nat) (c_1 : Cube) : ∀ (m0 : Nat) (n3 : Int) (f : Int), it (EmR.no _) (ref06_Size.C n) n (Code.go ref06_Size.code [1, 1, 0, 1, 0, 0]) (blockK 0 (seqK (EmR.no _) (ref06_Size.C n) n (Code.go ref06_Size.code [1, 1, 1]) (bodyK (ref06_Size.C n) f83 ref06_Size.rs))) m0 ⟨[(1, .ptr 1 0 TCube []), (3, .dat (.int .i64) n3), (4, .dat (.int .i64) f)], [(1, .box 0 false (.dat TCube c_1))]⟩ = ref06_Size.l0 n c_1 m0 n3 f
  | 0, _, _ => rfl
  | m0 + 1, n3, f =>
    (ref06_Size.l0.step n m0 n3 f c_1).trans (congr1 (fun k0 => ref06_Size.s0 n k0 n3 f c_1) (funext fun n3' => funext fun f' => ref06_Size.l0.eq n c_1 m0 n3' f'))
theorem ref06_Size.run0 (n : Nat) (x : pdens ref06_Size.ps) : Vi.run (ref06_Size.C n) n f83 ref06_Size.ps ref06_Size.rs x = ref06_Size.s n (fun (n3' : Int) (f' : Int) (c_1' : Cube) => it (EmR.no _) (ref06_Size.C n) n (Code.go ref06_Size.code [1, 1, 0, 1, 0, 0]) (blockK 0 (seqK (EmR.no _) (ref06_Size.C n) n (Code.go ref06_Size.code [1, 1, 1]) (bodyK (ref06_Size.C n) f83 ref06_Size.rs))) n ⟨[(1, .ptr 1 0 TCube []), (3, .dat (.int .i64) (n3')), (4, .dat (.int .i64) (f'))], [(1, .box 0 false (.dat TCube (c_1')))]⟩) x := by kernel_rfl
theorem ref06_Size.eq (n : Nat) (x : pdens ref06_Size.ps) : Vi.run (ref06_Size.C n) n f83 ref06_Size.ps ref06_Size.rs x = ref06_Size n x :=
  (ref06_Size.run0 n x).trans (congr1 (fun k0 => ref06_Size.s n k0 x) (funext fun n3' => funext fun f' => funext fun c_1' => ref06_Size.l0.eq n c_1' n n3' f'))
theorem ref06_Size.sound (n : Nat) : SoundE prog 83 (ref06_Size.e n) :=
  soundE_of_run (C := ref06_Size.C n) (n := n) (ref06_Size.ok n) func83 (by kernel_rfl) (by kernel_rfl) (fun x r h => (ref06_Size.eq n x).trans h)

def ref08_Bound.rs : List RTy := [.data (.int .i64)]
def ref08_Bound.ps : List PTy := [.data TCube, .data (.slc TCube)]
noncomputable def ref08_Bound.e (n : Nat) : Ent := ⟨ref08_Bound.ps, ref08_Bound.rs, fun x => ref08_Bound n x.1 x.2⟩
noncomputable def ref08_Bound.C (n : Nat) : Ctx := { tab := tab, fts := fts, pts := pts, Γ := lookO [(34, ref08_Meets.e n), (83, ref06_Size.e n)], Γc := lookO [], Γs := lookO [], Γm := lookO [], Γo := lookO [], ntmps := f35.ntmps, keep := Vi.look ([], []) [(4, ([5, 6, 7], []))], pins := [], cold := [2] }
theorem ref08_Bound.ok (n : Nat) : CtxOk prog (ref08_Bound.C n) := ⟨types, ftsOk_, ptsOk_, (fns_cons (ref08_Meets.sound n) (fns_cons (ref06_Size.sound n) fns_nil)), cls_nil, sqs_nil, ems_nil, mixed, ons_nil⟩
noncomputable def ref08_Bound.code : Code := bodyOf f35
theorem ref08_Bound.l0.step (n : Nat) (m0 : Nat) (m5 : (List Cube)) (n6 : Int) (i : Int) : it (EmR.no _) (ref08_Bound.C n) n (Code.go ref08_Bound.code [1, 1, 1, 0, 1, 0, 0]) (blockK 0 (seqK (EmR.no _) (ref08_Bound.C n) n (Code.go ref08_Bound.code [1, 1, 1, 1]) (bodyK (ref08_Bound.C n) f35 ref08_Bound.rs))) (m0 + 1) ⟨[(5, .lst (.tip 100005 0) TCube m5), (6, .dat (.int .i64) n6), (7, .dat (.int .i64) i)], [(100005, .tok 0)]⟩ = ref08_Bound.s0 n (fun (n6' : Int) (i' : Int) => it (EmR.no _) (ref08_Bound.C n) n (Code.go ref08_Bound.code [1, 1, 1, 0, 1, 0, 0]) (blockK 0 (seqK (EmR.no _) (ref08_Bound.C n) n (Code.go ref08_Bound.code [1, 1, 1, 1]) (bodyK (ref08_Bound.C n) f35 ref08_Bound.rs))) m0 ⟨[(5, .lst (.tip 100005 0) TCube m5), (6, .dat (.int .i64) (n6')), (7, .dat (.int .i64) (i'))], [(100005, .tok 0)]⟩) m5 n6 i := by kernel_rfl
theorem ref08_Bound.l0.eq (n : Nat) (m5 : (List Cube)) : ∀ (m0 : Nat) (n6 : Int) (i : Int), it (EmR.no _) (ref08_Bound.C n) n (Code.go ref08_Bound.code [1, 1, 1, 0, 1, 0, 0]) (blockK 0 (seqK (EmR.no _) (ref08_Bound.C n) n (Code.go ref08_Bound.code [1, 1, 1, 1]) (bodyK (ref08_Bound.C n) f35 ref08_Bound.rs))) m0 ⟨[(5, .lst (.tip 100005 0) TCube m5), (6, .dat (.int .i64) n6), (7, .dat (.int .i64) i)], [(100005, .tok 0)]⟩ = ref08_Bound.l0 n m5 m0 n6 i
  | 0, _, _ => rfl
  | m0 + 1, n6, i =>
    (ref08_Bound.l0.step n m0 m5 n6 i).trans (congr1 (fun k0 => ref08_Bound.s0 n k0 m5 n6 i) (funext fun n6' => funext fun i' => ref08_Bound.l0.eq n m5 m0 n6' i'))
theorem ref08_Bound.run0 (n : Nat) (x : pdens ref08_Bound.ps) : Vi.run (ref08_Bound.C n) n f35 ref08_Bound.ps ref08_Bound.rs x = ref08_Bound.s n (fun (m5' : (List Cube)) (n6' : Int) (i' : Int) => it (EmR.no _) (ref08_Bound.C n) n (Code.go ref08_Bound.code [1, 1, 1, 0, 1, 0, 0]) (blockK 0 (seqK (EmR.no _) (ref08_Bound.C n) n (Code.go ref08_Bound.code [1, 1, 1, 1]) (bodyK (ref08_Bound.C n) f35 ref08_Bound.rs))) n ⟨[(5, .lst (.tip 100005 0) TCube (m5')), (6, .dat (.int .i64) (n6')), (7, .dat (.int .i64) (i'))], [(100005, .tok 0)]⟩) x.1 x.2 := by kernel_rfl
theorem ref08_Bound.eq (n : Nat) (x : pdens ref08_Bound.ps) : Vi.run (ref08_Bound.C n) n f35 ref08_Bound.ps ref08_Bound.rs x = ref08_Bound n x.1 x.2 :=
  (ref08_Bound.run0 n x).trans (congr1 (fun k0 => ref08_Bound.s n k0 x.1 x.2) (funext fun m5' => funext fun n6' => funext fun i' => ref08_Bound.l0.eq n m5' n n6' i'))
theorem ref08_Bound.sound (n : Nat) : SoundE prog 35 (ref08_Bound.e n) :=
  soundE_of_run (C := ref08_Bound.C n) (n := n) (ref08_Bound.ok n) func35 (by kernel_rfl) (by kernel_rfl) (fun x r h => (ref08_Bound.eq n x).trans h)

def law08_light.rs : List RTy := [.data .bool]
def law08_light.ps : List PTy := [.data TCube, .data (.slc TCube), .data (.int .i64)]
noncomputable def law08_light.e (n : Nat) : Ent := ⟨law08_light.ps, law08_light.rs, fun x => law08_light n x.1 x.2.1 x.2.2⟩
noncomputable def law08_light.C (n : Nat) : Ctx := { tab := tab, fts := fts, pts := pts, Γ := lookO [(35, ref08_Bound.e n)], Γc := lookO [], Γs := lookO [], Γm := lookO [], Γo := lookO [], ntmps := f20.ntmps, keep := Vi.look ([], []) [], pins := [], cold := [3] }
theorem law08_light.ok (n : Nat) : CtxOk prog (law08_light.C n) := ⟨types, ftsOk_, ptsOk_, (fns_cons (ref08_Bound.sound n) fns_nil), cls_nil, sqs_nil, ems_nil, mixed, ons_nil⟩
theorem law08_light.eq (n : Nat) (x : pdens law08_light.ps) : Vi.run (law08_light.C n) n f20 law08_light.ps law08_light.rs x = law08_light n x.1 x.2.1 x.2.2 := by kernel_rfl
theorem law08_light.sound (n : Nat) : SoundE prog 20 (law08_light.e n) :=
  soundE_of_run (C := law08_light.C n) (n := n) (law08_light.ok n) func20 (by kernel_rfl) (by kernel_rfl) (fun x r h => (law08_light.eq n x).trans h)
def law08_light.g (n : Nat) (x : pdens (law08_light.τs.map PTy.data)) : Option Bool := law08_light n x.1 x.2.1 x.2.2
theorem law08_light.soundN (n : Nat) : SoundE prog 20 ⟨law08_light.τs.map PTy.data, [.data .bool], law08_light.g n⟩ := law08_light.sound n

def cube_All.rs : List RTy := [.data TCube]
def cube_All.ps : List PTy := []
noncomputable def cube_All.e (n : Nat) : Ent := ⟨cube_All.ps, cube_All.rs, fun x => some (cube_All)⟩
noncomputable def cube_All.C (n : Nat) : Ctx := { tab := tab, fts := fts, pts := pts, Γ := lookO [], Γc := lookO [], Γs := lookO [], Γm := lookO [], Γo := lookO [], ntmps := f69.ntmps, keep := Vi.look ([], []) [], pins := [] }
theorem cube_All.ok (n : Nat) : CtxOk prog (cube_All.C n) := ⟨types, ftsOk_, ptsOk_, fns_nil, cls_nil, sqs_nil, ems_nil, mixed, ons_nil⟩
theorem cube_All.eq (n : Nat) (x : pdens cube_All.ps) : Vi.run (cube_All.C n) n f69 cube_All.ps cube_All.rs x = some (cube_All) := by kernel_rfl
theorem cube_All.sound (n : Nat) : SoundE prog 69 (cube_All.e n) :=
  soundE_of_run (C := cube_All.C n) (n := n) (cube_All.ok n) func69 (by kernel_rfl) (by kernel_rfl) (fun x r h => (cube_All.eq n x).trans h)

def cover_purse_pay.rs : List RTy := [.data .bool]
def cover_purse_pay.τ : Ty := TPurse
def cover_purse_pay.ps : List PTy := []
noncomputable def cover_purse_pay.e (n : Nat) : Em := ⟨cover_purse_pay.τ, cover_purse_pay.ps, cover_purse_pay.rs, fun y x => cover_purse_pay y⟩
noncomputable def cover_purse_pay.C (n : Nat) : Ctx := { tab := tab, fts := fts, pts := pts, Γ := lookO [], Γc := lookO [], Γs := lookO [], Γm := lookO [], Γo := lookO [], ntmps := f116.ntmps, keep := Vi.look ([], []) [], pins := [0] }
theorem cover_purse_pay.ok (n : Nat) : CtxOk prog (cover_purse_pay.C n) := ⟨types, ftsOk_, ptsOk_, fns_nil, cls_nil, sqs_nil, ems_nil, mixed, ons_nil⟩
theorem cover_purse_pay.eq (n : Nat) (y : Ty.den cover_purse_pay.τ) (x : pdens cover_purse_pay.ps) : Vi.runM (cover_purse_pay.C n) n f116 cover_purse_pay.τ cover_purse_pay.ps cover_purse_pay.rs y x = cover_purse_pay y := by kernel_rfl
theorem cover_purse_pay.sound (n : Nat) : SoundM prog 116 (cover_purse_pay.e n) :=
  soundM_of_run (C := cover_purse_pay.C n) (n := n) (cover_purse_pay.ok n) func116 (by kernel_rfl) (by kernel_rfl) (fun y x r h => (cover_purse_pay.eq n y x).trans h)

def wide_And.rs : List RTy := [.data TWide]
def wide_And.ps : List PTy := [.data TWide, .data TWide]
noncomputable def wide_And.e (n : Nat) : Ent := ⟨wide_And.ps, wide_And.rs, fun x => some (wide_And x.1 x.2)⟩
noncomputable def wide_And.C (n : Nat) : Ctx := { tab := tab, fts := fts, pts := pts, Γ := lookO [], Γc := lookO [], Γs := lookO [], Γm := lookO [], Γo := lookO [], ntmps := f147.ntmps, keep := Vi.look ([], []) [], pins := [] }
theorem wide_And.ok (n : Nat) : CtxOk prog (wide_And.C n) := ⟨types, ftsOk_, ptsOk_, fns_nil, cls_nil, sqs_nil, ems_nil, mixed, ons_nil⟩
theorem wide_And.eq (n : Nat) (x : pdens wide_And.ps) : Vi.run (wide_And.C n) n f147 wide_And.ps wide_And.rs x = some (wide_And x.1 x.2) := by kernel_rfl
theorem wide_And.sound (n : Nat) : SoundE prog 147 (wide_And.e n) :=
  soundE_of_run (C := wide_And.C n) (n := n) (wide_And.ok n) func147 (by kernel_rfl) (by kernel_rfl) (fun x r h => (wide_And.eq n x).trans h)

def wide_Xor.rs : List RTy := [.data TWide]
def wide_Xor.ps : List PTy := [.data TWide, .data TWide]
noncomputable def wide_Xor.e (n : Nat) : Ent := ⟨wide_Xor.ps, wide_Xor.rs, fun x => some (wide_Xor x.1 x.2)⟩
noncomputable def wide_Xor.C (n : Nat) : Ctx := { tab := tab, fts := fts, pts := pts, Γ := lookO [], Γc := lookO [], Γs := lookO [], Γm := lookO [], Γo := lookO [], ntmps := f148.ntmps, keep := Vi.look ([], []) [], pins := [] }
theorem wide_Xor.ok (n : Nat) : CtxOk prog (wide_Xor.C n) := ⟨types, ftsOk_, ptsOk_, fns_nil, cls_nil, sqs_nil, ems_nil, mixed, ons_nil⟩
theorem wide_Xor.eq (n : Nat) (x : pdens wide_Xor.ps) : Vi.run (wide_Xor.C n) n f148 wide_Xor.ps wide_Xor.rs x = some (wide_Xor x.1 x.2) := by kernel_rfl
theorem wide_Xor.sound (n : Nat) : SoundE prog 148 (wide_Xor.e n) :=
  soundE_of_run (C := wide_Xor.C n) (n := n) (wide_Xor.ok n) func148 (by kernel_rfl) (by kernel_rfl) (fun x r h => (wide_Xor.eq n x).trans h)

def tern_unlike.rs : List RTy := [.data TWide]
def tern_unlike.ps : List PTy := [.data TWide, .data TWide, .data TWide]
noncomputable def tern_unlike.e (n : Nat) : Ent := ⟨tern_unlike.ps, tern_unlike.rs, fun x => some (tern_unlike x.1 x.2.1 x.2.2)⟩
noncomputable def tern_unlike.C (n : Nat) : Ctx := { tab := tab, fts := fts, pts := pts, Γ := lookO [(147, wide_And.e n), (148, wide_Xor.e n)], Γc := lookO [], Γs := lookO [], Γm := lookO [], Γo := lookO [], ntmps := f115.ntmps, keep := Vi.look ([], []) [], pins := [], cold := [3, 4, 5] }
theorem tern_unlike.ok (n : Nat) : CtxOk prog (tern_unlike.C n) := ⟨types, ftsOk_, ptsOk_, (fns_cons (wide_And.sound n) (fns_cons (wide_Xor.sound n) fns_nil)), cls_nil, sqs_nil, ems_nil, mixed, ons_nil⟩
theorem tern_unlike.eq (n : Nat) (x : pdens tern_unlike.ps) : Vi.run (tern_unlike.C n) n f115 tern_unlike.ps tern_unlike.rs x = some (tern_unlike x.1 x.2.1 x.2.2) := by kernel_rfl
theorem tern_unlike.sound (n : Nat) : SoundE prog 115 (tern_unlike.e n) :=
  soundE_of_run (C := tern_unlike.C n) (n := n) (tern_unlike.ok n) func115 (by kernel_rfl) (by kernel_rfl) (fun x r h => (tern_unlike.eq n x).trans h)

def wide_Zero.rs : List RTy := [.data .bool]
def wide_Zero.ps : List PTy := [.data TWide]
noncomputable def wide_Zero.e (n : Nat) : Ent := ⟨wide_Zero.ps, wide_Zero.rs, fun x => some (wide_Zero x)⟩
noncomputable def wide_Zero.C (n : Nat) : Ctx := { tab := tab, fts := fts, pts := pts, Γ := lookO [], Γc := lookO [], Γs := lookO [], Γm := lookO [], Γo := lookO [], ntmps := f114.ntmps, keep := Vi.look ([], []) [], pins := [] }
theorem wide_Zero.ok (n : Nat) : CtxOk prog (wide_Zero.C n) := ⟨types, ftsOk_, ptsOk_, fns_nil, cls_nil, sqs_nil, ems_nil, mixed, ons_nil⟩
theorem wide_Zero.eq (n : Nat) (x : pdens wide_Zero.ps) : Vi.run (wide_Zero.C n) n f114 wide_Zero.ps wide_Zero.rs x = some (wide_Zero x) := by kernel_rfl
theorem wide_Zero.sound (n : Nat) : SoundE prog 114 (wide_Zero.e n) :=
  soundE_of_run (C := wide_Zero.C n) (n := n) (wide_Zero.ok n) func114 (by kernel_rfl) (by kernel_rfl) (fun x r h => (wide_Zero.eq n x).trans h)

def tern_Has.rs : List RTy := [.data .bool]
def tern_Has.ps : List PTy := [.data TTern, .data TWide]
noncomputable def tern_Has.e (n : Nat) : Ent := ⟨tern_Has.ps, tern_Has.rs, fun x => some (tern_Has x.1 x.2)⟩
noncomputable def tern_Has.C (n : Nat) : Ctx := { tab := tab, fts := fts, pts := pts, Γ := lookO [(114, wide_Zero.e n), (115, tern_unlike.e n)], Γc := lookO [], Γs := lookO [], Γm := lookO [], Γo := lookO [], ntmps := f68.ntmps, keep := Vi.look ([], []) [], pins := [], cold := [3] }
theorem tern_Has.ok (n : Nat) : CtxOk prog (tern_Has.C n) := ⟨types, ftsOk_, ptsOk_, (fns_cons (wide_Zero.sound n) (fns_cons (tern_unlike.sound n) fns_nil)), cls_nil, sqs_nil, ems_nil, mixed, ons_nil⟩
theorem tern_Has.eq (n : Nat) (x : pdens tern_Has.ps) : Vi.run (tern_Has.C n) n f68 tern_Has.ps tern_Has.rs x = some (tern_Has x.1 x.2) := by kernel_rfl
theorem tern_Has.sound (n : Nat) : SoundE prog 68 (tern_Has.e n) :=
  soundE_of_run (C := tern_Has.C n) (n := n) (tern_Has.ok n) func68 (by kernel_rfl) (by kernel_rfl) (fun x r h => (tern_Has.eq n x).trans h)

def tern_Clean.rs : List RTy := [.data TTern]
def tern_Clean.ps : List PTy := [.data TTern]
noncomputable def tern_Clean.e (n : Nat) : Ent := ⟨tern_Clean.ps, tern_Clean.rs, fun x => some (tern_Clean x)⟩
noncomputable def tern_Clean.C (n : Nat) : Ctx := { tab := tab, fts := fts, pts := pts, Γ := lookO [(147, wide_And.e n)], Γc := lookO [], Γs := lookO [], Γm := lookO [], Γo := lookO [], ntmps := f126.ntmps, keep := Vi.look ([], []) [], pins := [] }
theorem tern_Clean.ok (n : Nat) : CtxOk prog (tern_Clean.C n) := ⟨types, ftsOk_, ptsOk_, (fns_cons (wide_And.sound n) fns_nil), cls_nil, sqs_nil, ems_nil, mixed, ons_nil⟩
theorem tern_Clean.eq (n : Nat) (x : pdens tern_Clean.ps) : Vi.run (tern_Clean.C n) n f126 tern_Clean.ps tern_Clean.rs x = some (tern_Clean x) := by kernel_rfl
theorem tern_Clean.sound (n : Nat) : SoundE prog 126 (tern_Clean.e n) :=
  soundE_of_run (C := tern_Clean.C n) (n := n) (tern_Clean.ok n) func126 (by kernel_rfl) (by kernel_rfl) (fun x r h => (tern_Clean.eq n x).trans h)

def wide_Or.rs : List RTy := [.data TWide]
def wide_Or.ps : List PTy := [.data TWide, .data TWide]
noncomputable def wide_Or.e (n : Nat) : Ent := ⟨wide_Or.ps, wide_Or.rs, fun x => some (wide_Or x.1 x.2)⟩
noncomputable def wide_Or.C (n : Nat) : Ctx := { tab := tab, fts := fts, pts := pts, Γ := lookO [], Γc := lookO [], Γs := lookO [], Γm := lookO [], Γo := lookO [], ntmps := f162.ntmps, keep := Vi.look ([], []) [], pins := [] }
theorem wide_Or.ok (n : Nat) : CtxOk prog (wide_Or.C n) := ⟨types, ftsOk_, ptsOk_, fns_nil, cls_nil, sqs_nil, ems_nil, mixed, ons_nil⟩
theorem wide_Or.eq (n : Nat) (x : pdens wide_Or.ps) : Vi.run (wide_Or.C n) n f162 wide_Or.ps wide_Or.rs x = some (wide_Or x.1 x.2) := by kernel_rfl
theorem wide_Or.sound (n : Nat) : SoundE prog 162 (wide_Or.e n) :=
  soundE_of_run (C := wide_Or.C n) (n := n) (wide_Or.ok n) func162 (by kernel_rfl) (by kernel_rfl) (fun x r h => (wide_Or.eq n x).trans h)

def tern_Meet.rs : List RTy := [.data TTern, .data .bool]
def tern_Meet.ps : List PTy := [.data TTern, .data TTern]
noncomputable def tern_Meet.e (n : Nat) : Ent := ⟨tern_Meet.ps, tern_Meet.rs, fun x => some (tern_Meet x.1 x.2)⟩
noncomputable def tern_Meet.C (n : Nat) : Ctx := { tab := tab, fts := fts, pts := pts, Γ := lookO [(68, tern_Has.e n), (126, tern_Clean.e n), (147, wide_And.e n), (162, wide_Or.e n)], Γc := lookO [], Γs := lookO [], Γm := lookO [], Γo := lookO [], ntmps := f130.ntmps, keep := Vi.look ([], []) [], pins := [] }
theorem tern_Meet.ok (n : Nat) : CtxOk prog (tern_Meet.C n) := ⟨types, ftsOk_, ptsOk_, (fns_cons (tern_Has.sound n) (fns_cons (tern_Clean.sound n) (fns_cons (wide_And.sound n) (fns_cons (wide_Or.sound n) fns_nil)))), cls_nil, sqs_nil, ems_nil, mixed, ons_nil⟩
theorem tern_Meet.run0 (n : Nat) (x : pdens tern_Meet.ps) : Vi.run (tern_Meet.C n) n f130 tern_Meet.ps tern_Meet.rs x = tern_Meet.o x.1 x.2 := by kernel_rfl
theorem tern_Meet.eq (n : Nat) (x : pdens tern_Meet.ps) : Vi.run (tern_Meet.C n) n f130 tern_Meet.ps tern_Meet.rs x = some (tern_Meet x.1 x.2) := (tern_Meet.run0 n x).trans (tern_Meet.o_eq _ _)
theorem tern_Meet.sound (n : Nat) : SoundE prog 130 (tern_Meet.e n) :=
  soundE_of_run (C := tern_Meet.C n) (n := n) (tern_Meet.ok n) func130 (by kernel_rfl) (by kernel_rfl) (fun x r h => (tern_Meet.eq n x).trans h)

def cube_Meet_1.rs : List Ty := [TTern, .bool]
def cube_Meet_1.ps : List Ty := [(.int .i64)]
def cube_Meet_1.caps : List PTy := [.cptr TCube, .cptr TCube]
noncomputable def cube_Meet_1.e (n : Nat) : Cl := ⟨cube_Meet_1.ps, cube_Meet_1.caps, cube_Meet_1.rs, fun x c => cube_Meet_1 x c.1 c.2⟩
noncomputable def cube_Meet_1.C (n : Nat) : Ctx := { tab := tab, fts := fts, pts := pts, Γ := lookO [(130, tern_Meet.e n)], Γc := lookO [], Γs := lookO [], Γm := lookO [], Γo := lookO [], ntmps := f129.ntmps, keep := Vi.look ([], []) [], pins := [] }
theorem cube_Meet_1.ok (n : Nat) : CtxOk prog (cube_Meet_1.C n) := ⟨types, ftsOk_, ptsOk_, (fns_cons (tern_Meet.sound n) fns_nil), cls_nil, sqs_nil, ems_nil, mixed, ons_nil⟩
theorem cube_Meet_1.eq (n : Nat) (x : dens cube_Meet_1.ps) (c : pdens cube_Meet_1.caps) : Vi.runC (cube_Meet_1.C n) n f129 cube_Meet_1.ps cube_Meet_1.caps cube_Meet_1.rs x c = cube_Meet_1 x c.1 c.2 := by kernel_rfl
theorem cube_Meet_1.sound (n : Nat) : SoundC prog 129 (cube_Meet_1.e n) :=
  soundC_of_run (C := cube_Meet_1.C n) (n := n) (cube_Meet_1.ok n) func129 (by kernel_rfl) (by kernel_rfl) (fun x c r h => (cube_Meet_1.eq n x c).trans h)

def cube_each.rs : List RTy := [.data TCube, .data .bool]
def cube_each.ps : List PTy := [.fnp [(.int .i64)] [TTern, .bool]]
noncomputable def cube_each.e (n : Nat) : Ent := ⟨cube_each.ps, cube_each.rs, fun x => cube_each n x⟩
noncomputable def cube_each.C (n : Nat) : Ctx := { tab := tab, fts := fts, pts := pts, Γ := lookO [], Γc := lookO [], Γs := lookO [], Γm := lookO [], Γo := lookO [], ntmps := f124.ntmps, keep := Vi.look ([], []) [(3, ([0, 2, 4, 8], [2, 4]))], pins := [] }
theorem cube_each.ok (n : Nat) : CtxOk prog (cube_each.C n) := ⟨types, ftsOk_, ptsOk_, fns_nil, cls_nil, sqs_nil, ems_nil, mixed, ons_nil⟩
noncomputable def cube_each.code : Code := bodyOf f124
theorem cube_each.l0.step (n : Nat) (m0 : Nat) (f_1 : (Int → Option (Tern × Bool))) (v8 : Int) (v2 : Cube) (c : Cube) : it (EmR.no _) (cube_each.C n) n (Code.go cube_each.code [1, 1, 0, 1, 0, 0]) (blockK 0 (seqK (EmR.no _) (cube_each.C n) n (Code.go cube_each.code [1, 1, 1]) (bodyK (cube_each.C n) f124 cube_each.rs))) (m0 + 1) ⟨[(0, .fn [(.int .i64)] [TTern, .bool] f_1), (2, .ptr 2 0 TCube []), (4, .ptr 4 0 TCube []), (8, .dat (.int .i64) v8)], [(2, .box 0 false (.dat TCube v2)), (4, .box 0 false (.dat TCube c))]⟩ = cube_each.s0 n (fun (v8' : Int) (c' : Cube) => it (EmR.no _) (cube_each.C n) n (Code.go cube_each.code [1, 1, 0, 1, 0, 0]) (blockK 0 (seqK (EmR.no _) (cube_each.C n) n (Code.go cube_each.code [1, 1, 1]) (bodyK (cube_each.C n) f124 cube_each.rs))) m0 ⟨[(0, .fn [(.int .i64)] [TTern, .bool] f_1), (2, .ptr 2 0 TCube []), (4, .ptr 4 0 TCube []), (8, .dat (.int .i64) (v8'))], [(2, .box 0 false (.dat TCube v2)), (4, .box 0 false (.dat TCube (c')))]⟩) f_1 v8 v2 c := by kernel_rfl
theorem cube_each.l0.eq (n : Nat) (f_1 : (Int → Option (Tern × Bool))) (v2 : Cube) : ∀ (m0 : Nat) (v8 : Int) (c : Cube), it (EmR.no _) (cube_each.C n) n (Code.go cube_each.code [1, 1, 0, 1, 0, 0]) (blockK 0 (seqK (EmR.no _) (cube_each.C n) n (Code.go cube_each.code [1, 1, 1]) (bodyK (cube_each.C n) f124 cube_each.rs))) m0 ⟨[(0, .fn [(.int .i64)] [TTern, .bool] f_1), (2, .ptr 2 0 TCube []), (4, .ptr 4 0 TCube []), (8, .dat (.int .i64) v8)], [(2, .box 0 false (.dat TCube v2)), (4, .box 0 false (.dat TCube c))]⟩ = cube_each.l0 n f_1 v2 m0 v8 c
  | 0, _, _ => rfl
  | m0 + 1, v8, c =>
    (cube_each.l0.step n m0 f_1 v8 v2 c).trans (congr1 (fun k0 => cube_each.s0 n k0 f_1 v8 v2 c) (funext fun v8' => funext fun c' => cube_each.l0.eq n f_1 v2 m0 v8' c'))
theorem cube_each.run0 (n : Nat) (x : pdens cube_each.ps) : Vi.run (cube_each.C n) n f124 cube_each.ps cube_each.rs x = cube_each.s n (fun (f_1' : (Int → Option (Tern × Bool))) (v8' : Int) (v2' : Cube) (c' : Cube) => it (EmR.no _) (cube_each.C n) n (Code.go cube_each.code [1, 1, 0, 1, 0, 0]) (blockK 0 (seqK (EmR.no _) (cube_each.C n) n (Code.go cube_each.code [1, 1, 1]) (bodyK (cube_each.C n) f124 cube_each.rs))) n ⟨[(0, .fn [(.int .i64)] [TTern, .bool] (f_1')), (2, .ptr 2 0 TCube []), (4, .ptr 4 0 TCube []), (8, .dat (.int .i64) (v8'))], [(2, .box 0 false (.dat TCube (v2'))), (4, .box 0 false (.dat TCube (c')))]⟩) x := by kernel_rfl
theorem cube_each.eq (n : Nat) (x : pdens cube_each.ps) : Vi.run (cube_each.C n) n f124 cube_each.ps cube_each.rs x = cube_each n x :=
  (cube_each.run0 n x).trans (congr1 (fun k0 => cube_each.s n k0 x) (funext fun f_1' => funext fun v8' => funext fun v2' => funext fun c' => cube_each.l0.eq n f_1' v2' n v8' c'))
theorem cube_each.sound (n : Nat) : SoundE prog 124 (cube_each.e n) :=
  soundE_of_run (C := cube_each.C n) (n := n) (cube_each.ok n) func124 (by kernel_rfl) (by kernel_rfl) (fun x r h => (cube_each.eq n x).trans h)

def cube_Meet.rs : List RTy := [.data TCube, .data .bool]
def cube_Meet.ps : List PTy := [.data TCube, .data TCube]
noncomputable def cube_Meet.e (n : Nat) : Ent := ⟨cube_Meet.ps, cube_Meet.rs, fun x => cube_Meet n x.1 x.2⟩
noncomputable def cube_Meet.C (n : Nat) : Ctx := { tab := tab, fts := fts, pts := pts, Γ := lookO [(124, cube_each.e n)], Γc := lookO [(129, cube_Meet_1.e n)], Γs := lookO [], Γm := lookO [], Γo := lookO [], ntmps := f81.ntmps, keep := Vi.look ([], []) [], pins := [], cold := [2, 3] }
theorem cube_Meet.ok (n : Nat) : CtxOk prog (cube_Meet.C n) := ⟨types, ftsOk_, ptsOk_, (fns_cons (cube_each.sound n) fns_nil), (cls_cons (cube_Meet_1.sound n) cls_nil), sqs_nil, ems_nil, mixed, ons_nil⟩
theorem cube_Meet.eq (n : Nat) (x : pdens cube_Meet.ps) : Vi.run (cube_Meet.C n) n f81 cube_Meet.ps cube_Meet.rs x = cube_Meet n x.1 x.2 := by kernel_rfl
theorem cube_Meet.sound (n : Nat) : SoundE prog 81 (cube_Meet.e n) :=
  soundE_of_run (C := cube_Meet.C n) (n := n) (cube_Meet.ok n) func81 (by kernel_rfl) (by kernel_rfl) (fun x r h => (cube_Meet.eq n x).trans h)

def wide_Less.rs : List RTy := [.data TWide]
def wide_Less.ps : List PTy := [.data TWide, .data TWide]
noncomputable def wide_Less.e (n : Nat) : Ent := ⟨wide_Less.ps, wide_Less.rs, fun x => some (wide_Less x.1 x.2)⟩
noncomputable def wide_Less.C (n : Nat) : Ctx := { tab := tab, fts := fts, pts := pts, Γ := lookO [], Γc := lookO [], Γs := lookO [], Γm := lookO [], Γo := lookO [], ntmps := f172.ntmps, keep := Vi.look ([], []) [], pins := [] }
theorem wide_Less.ok (n : Nat) : CtxOk prog (wide_Less.C n) := ⟨types, ftsOk_, ptsOk_, fns_nil, cls_nil, sqs_nil, ems_nil, mixed, ons_nil⟩
theorem wide_Less.eq (n : Nat) (x : pdens wide_Less.ps) : Vi.run (wide_Less.C n) n f172 wide_Less.ps wide_Less.rs x = some (wide_Less x.1 x.2) := by kernel_rfl
theorem wide_Less.sound (n : Nat) : SoundE prog 172 (wide_Less.e n) :=
  soundE_of_run (C := wide_Less.C n) (n := n) (wide_Less.ok n) func172 (by kernel_rfl) (by kernel_rfl) (fun x r h => (wide_Less.eq n x).trans h)

def tern_Within.rs : List RTy := [.data .bool]
def tern_Within.ps : List PTy := [.data TTern, .data TTern]
noncomputable def tern_Within.e (n : Nat) : Ent := ⟨tern_Within.ps, tern_Within.rs, fun x => some (tern_Within x.1 x.2)⟩
noncomputable def tern_Within.C (n : Nat) : Ctx := { tab := tab, fts := fts, pts := pts, Γ := lookO [(68, tern_Has.e n), (114, wide_Zero.e n), (172, wide_Less.e n)], Γc := lookO [], Γs := lookO [], Γm := lookO [], Γo := lookO [], ntmps := f171.ntmps, keep := Vi.look ([], []) [], pins := [] }
theorem tern_Within.ok (n : Nat) : CtxOk prog (tern_Within.C n) := ⟨types, ftsOk_, ptsOk_, (fns_cons (tern_Has.sound n) (fns_cons (wide_Zero.sound n) (fns_cons (wide_Less.sound n) fns_nil))), cls_nil, sqs_nil, ems_nil, mixed, ons_nil⟩
theorem tern_Within.run0 (n : Nat) (x : pdens tern_Within.ps) : Vi.run (tern_Within.C n) n f171 tern_Within.ps tern_Within.rs x = tern_Within.o x.1 x.2 := by kernel_rfl
theorem tern_Within.eq (n : Nat) (x : pdens tern_Within.ps) : Vi.run (tern_Within.C n) n f171 tern_Within.ps tern_Within.rs x = some (tern_Within x.1 x.2) := (tern_Within.run0 n x).trans (tern_Within.o_eq _ _)
theorem tern_Within.sound (n : Nat) : SoundE prog 171 (tern_Within.e n) :=
  soundE_of_run (C := tern_Within.C n) (n := n) (tern_Within.ok n) func171 (by kernel_rfl) (by kernel_rfl) (fun x r h => (tern_Within.eq n x).trans h)

def cube_Within.rs : List RTy := [.data .bool]
def cube_Within.ps : List PTy := [.data TCube, .data TCube]
noncomputable def cube_Within.e (n : Nat) : Ent := ⟨cube_Within.ps, cube_Within.rs, fun x => cube_Within n x.1 x.2⟩
noncomputable def cube_Within.C (n : Nat) : Ctx := { tab := tab, fts := fts, pts := pts, Γ := lookO [(171, tern_Within.e n)], Γc := lookO [], Γs := lookO [], Γm := lookO [], Γo := lookO [], ntmps := f149.ntmps, keep := Vi.look ([], []) [(2, ([3, 7, 8], [3]))], pins := [], cold := [2] }
theorem cube_Within.ok (n : Nat) : CtxOk prog (cube_Within.C n) := ⟨types, ftsOk_, ptsOk_, (fns_cons (tern_Within.sound n) fns_nil), cls_nil, sqs_nil, ems_nil, mixed, ons_nil⟩
noncomputable def cube_Within.code : Code := bodyOf f149
theorem cube_Within.l0.step (n : Nat) (m0 : Nat) (v7 : Cube) (v8 : Int) (b_1 : Cube) : it (EmR.no _) (cube_Within.C n) n (Code.go cube_Within.code [1, 0, 1, 0, 0]) (blockK 0 (seqK (EmR.no _) (cube_Within.C n) n (Code.go cube_Within.code [1, 1]) (bodyK (cube_Within.C n) f149 cube_Within.rs))) (m0 + 1) ⟨[(3, .ptr 3 0 TCube []), (7, .dat TCube v7), (8, .dat (.int .i64) v8)], [(3, .box 0 false (.dat TCube b_1))]⟩ = cube_Within.s0 n (fun (v8' : Int) => it (EmR.no _) (cube_Within.C n) n (Code.go cube_Within.code [1, 0, 1, 0, 0]) (blockK 0 (seqK (EmR.no _) (cube_Within.C n) n (Code.go cube_Within.code [1, 1]) (bodyK (cube_Within.C n) f149 cube_Within.rs))) m0 ⟨[(3, .ptr 3 0 TCube []), (7, .dat TCube v7), (8, .dat (.int .i64) (v8'))], [(3, .box 0 false (.dat TCube b_1))]⟩) v7 v8 b_1 := by kernel_rfl
theorem cube_Within.l0.eq (n : Nat) (v7 : Cube) (b_1 : Cube) : ∀ (m0 : Nat) (v8 : Int), it (EmR.no _) (cube_Within.C n) n (Code.go cube_Within.code [1, 0, 1, 0, 0]) (blockK 0 (seqK (EmR.no _) (cube_Within.C n) n (Code.go cube_Within.code [1, 1]) (bodyK (cube_Within.C n) f149 cube_Within.rs))) m0 ⟨[(3, .ptr 3 0 TCube []), (7, .dat TCube v7), (8, .dat (.int .i64) v8)], [(3, .box 0 false (.dat TCube b_1))]⟩ = cube_Within.l0 n v7 b_1 m0 v8
  | 0, _ => rfl
  | m0 + 1, v8 =>
    (cube_Within.l0.step n m0 v7 v8 b_1).trans (congr1 (fun k0 => cube_Within.s0 n k0 v7 v8 b_1) (funext fun v8' => cube_Within.l0.eq n v7 b_1 m0 v8'))
theorem cube_Within.run0 (n : Nat) (x : pdens cube_Within.ps) : Vi.run (cube_Within.C n) n f149 cube_Within.ps cube_Within.rs x = cube_Within.s n (fun (v7' : Cube) (v8' : Int) (b_1' : Cube) => it (EmR.no _) (cube_Within.C n) n (Code.go cube_Within.code [1, 0, 1, 0, 0]) (blockK 0 (seqK (EmR.no _) (cube_Within.C n) n (Code.go cube_Within.code [1, 1]) (bodyK (cube_Within.C n) f149 cube_Within.rs))) n ⟨[(3, .ptr 3 0 TCube []), (7, .dat TCube (v7')), (8, .dat (.int .i64) (v8'))], [(3, .box 0 false (.dat TCube (b_1')))]⟩) x.1 x.2 := by kernel_rfl
theorem cube_Within.eq (n : Nat) (x : pdens cube_Within.ps) : Vi.run (cube_Within.C n) n f149 cube_Within.ps cube_Within.rs x = cube_Within n x.1 x.2 :=
  (cube_Within.run0 n x).trans (congr1 (fun k0 => cube_Within.s n k0 x.1 x.2) (funext fun v7' => funext fun v8' => funext fun b_1' => cube_Within.l0.eq n v7' b_1' n v8'))
theorem cube_Within.sound (n : Nat) : SoundE prog 149 (cube_Within.e n) :=
  soundE_of_run (C := cube_Within.C n) (n := n) (cube_Within.ok n) func149 (by kernel_rfl) (by kernel_rfl) (fun x r h => (cube_Within.eq n x).trans h)

def cover_among.rs : List RTy := [.data .bool, .data (.int .i64)]
def cover_among.ps : List PTy := [.data TCube, .data (.slc TCube)]
noncomputable def cover_among.e (n : Nat) : Ent := ⟨cover_among.ps, cover_among.rs, fun x => cover_among n x.1 x.2⟩
noncomputable def cover_among.C (n : Nat) : Ctx := { tab := tab, fts := fts, pts := pts, Γ := lookO [(81, cube_Meet.e n), (149, cube_Within.e n)], Γc := lookO [], Γs := lookO [], Γm := lookO [], Γo := lookO [], ntmps := f117.ntmps, keep := Vi.look ([], []) [(3, ([2, 6, 11, 12, 13], [2]))], pins := [], cold := [2] }
theorem cover_among.ok (n : Nat) : CtxOk prog (cover_among.C n) := ⟨types, ftsOk_, ptsOk_, (fns_cons (cube_Meet.sound n) (fns_cons (cube_Within.sound n) fns_nil)), cls_nil, sqs_nil, ems_nil, mixed, ons_nil⟩
noncomputable def cover_among.code : Code := bodyOf f117
theorem cover_among.l0.step (n : Nat) (m0 : Nat) (first : Int) (v11 : (List Cube)) (v12 : Int) (v13 : Int) (c_1 : Cube) : it (EmR.no _) (cover_among.C n) n (Code.go cover_among.code [1, 1, 0, 1, 0, 0]) (blockK 0 (seqK (EmR.no _) (cover_among.C n) n (Code.go cover_among.code [1, 1, 1]) (bodyK (cover_among.C n) f117 cover_among.rs))) (m0 + 1) ⟨[(2, .ptr 2 0 TCube []), (6, .dat (.int .i64) first), (11, .dat (.slc TCube) v11), (12, .dat (.int .i64) v12), (13, .dat (.int .i64) v13)], [(2, .box 0 true (.dat TCube c_1))]⟩ = cover_among.s0 n (fun (first' : Int) (v13' : Int) => it (EmR.no _) (cover_among.C n) n (Code.go cover_among.code [1, 1, 0, 1, 0, 0]) (blockK 0 (seqK (EmR.no _) (cover_among.C n) n (Code.go cover_among.code [1, 1, 1]) (bodyK (cover_among.C n) f117 cover_among.rs))) m0 ⟨[(2, .ptr 2 0 TCube []), (6, .dat (.int .i64) (first')), (11, .dat (.slc TCube) v11), (12, .dat (.int .i64) v12), (13, .dat (.int .i64) (v13'))], [(2, .box 0 true (.dat TCube c_1))]⟩) first v11 v12 v13 c_1 := by kernel_rfl
theorem cover_among.l0.eq (n : Nat) (v11 : (List Cube)) (v12 : Int) (c_1 : Cube) : ∀ (m0 : Nat) (first : Int) (v13 : Int), it (EmR.no _) (cover_among.C n) n (Code.go cover_among.code [1, 1, 0, 1, 0, 0]) (blockK 0 (seqK (EmR.no _) (cover_among.C n) n (Code.go cover_among.code [1, 1, 1]) (bodyK (cover_among.C n) f117 cover_among.rs))) m0 ⟨[(2, .ptr 2 0 TCube []), (6, .dat (.int .i64) first), (11, .dat (.slc TCube) v11), (12, .dat (.int .i64) v12), (13, .dat (.int .i64) v13)], [(2, .box 0 true (.dat TCube c_1))]⟩ = cover_among.l0 n v11 v12 c_1 m0 first v13
  | 0, _, _ => rfl
  | m0 + 1, first, v13 =>
    (cover_among.l0.step n m0 first v11 v12 v13 c_1).trans (congr1 (fun k0 => cover_among.s0 n k0 first v11 v12 v13 c_1) (funext fun first' => funext fun v13' => cover_among.l0.eq n v11 v12 c_1 m0 first' v13'))
theorem cover_among.run0 (n : Nat) (x : pdens cover_among.ps) : Vi.run (cover_among.C n) n f117 cover_among.ps cover_among.rs x = cover_among.s n (fun (first' : Int) (v11' : (List Cube)) (v12' : Int) (v13' : Int) (c_1' : Cube) => it (EmR.no _) (cover_among.C n) n (Code.go cover_among.code [1, 1, 0, 1, 0, 0]) (blockK 0 (seqK (EmR.no _) (cover_among.C n) n (Code.go cover_among.code [1, 1, 1]) (bodyK (cover_among.C n) f117 cover_among.rs))) n ⟨[(2, .ptr 2 0 TCube []), (6, .dat (.int .i64) (first')), (11, .dat (.slc TCube) (v11')), (12, .dat (.int .i64) (v12')), (13, .dat (.int .i64) (v13'))], [(2, .box 0 true (.dat TCube (c_1')))]⟩) x.1 x.2 := by kernel_rfl
theorem cover_among.eq (n : Nat) (x : pdens cover_among.ps) : Vi.run (cover_among.C n) n f117 cover_among.ps cover_among.rs x = cover_among n x.1 x.2 :=
  (cover_among.run0 n x).trans (congr1 (fun k0 => cover_among.s n k0 x.1 x.2) (funext fun first' => funext fun v11' => funext fun v12' => funext fun v13' => funext fun c_1' => cover_among.l0.eq n v11' v12' c_1' n first' v13'))
theorem cover_among.sound (n : Nat) : SoundE prog 117 (cover_among.e n) :=
  soundE_of_run (C := cover_among.C n) (n := n) (cover_among.ok n) func117 (by kernel_rfl) (by kernel_rfl) (fun x r h => (cover_among.eq n x).trans h)

def cube_Pick.rs : List RTy := [.data THeader]
def cube_Pick.ps : List PTy := [.data TCube]
noncomputable def cube_Pick.e (n : Nat) : Ent := ⟨cube_Pick.ps, cube_Pick.rs, fun x => cube_Pick n x⟩
noncomputable def cube_Pick.C (n : Nat) : Ctx := { tab := tab, fts := fts, pts := pts, Γ := lookO [(126, tern_Clean.e n)], Γc := lookO [], Γs := lookO [], Γm := lookO [], Γo := lookO [], ntmps := f118.ntmps, keep := Vi.look ([], []) [(3, ([2, 3, 6, 7], [2, 3]))], pins := [], cold := [1] }
theorem cube_Pick.ok (n : Nat) : CtxOk prog (cube_Pick.C n) := ⟨types, ftsOk_, ptsOk_, (fns_cons (tern_Clean.sound n) fns_nil), cls_nil, sqs_nil, ems_nil, mixed, ons_nil⟩
noncomputable def cube_Pick.code : Code := bodyOf f118
theorem cube_Pick.l0.step (n : Nat) (m0 : Nat) (v6 : Cube) (v7 : Int) (v2 : Header) (h : Header) : it (EmR.no _) (cube_Pick.C n) n (Code.go cube_Pick.code [1, 1, 0, 1, 0, 0]) (blockK 0 (seqK (EmR.no _) (cube_Pick.C n) n (Code.go cube_Pick.code [1, 1, 1]) (bodyK (cube_Pick.C n) f118 cube_Pick.rs))) (m0 + 1) ⟨[(2, .ptr 2 0 THeader []), (3, .ptr 3 0 THeader []), (6, .dat TCube v6), (7, .dat (.int .i64) v7)], [(2, .box 0 false (.dat THeader v2)), (3, .box 0 false (.dat THeader h))]⟩ = cube_Pick.s0 n (fun (v7' : Int) (h' : Header) => it (EmR.no _) (cube_Pick.C n) n (Code.go cube_Pick.code [1, 1, 0, 1, 0, 0]) (blockK 0 (seqK (EmR.no _) (cube_Pick.C n) n (Code.go cube_Pick.code [1, 1, 1]) (bodyK (cube_Pick.C n) f118 cube_Pick.rs))) m0 ⟨[(2, .ptr 2 0 THeader []), (3, .ptr 3 0 THeader []), (6, .dat TCube v6), (7, .dat (.int .i64) (v7'))], [(2, .box 0 false (.dat THeader v2)), (3, .box 0 false (.dat THeader (h')))]⟩) v6 v7 v2 h := by kernel_rfl
theorem cube_Pick.l0.eq (n : Nat) (v6 : Cube) (v2 : Header) : ∀ (m0 : Nat) (v7 : Int) (h : Header), it (EmR.no _) (cube_Pick.C n) n (Code.go cube_Pick.code [1, 1, 0, 1, 0, 0]) (blockK 0 (seqK (EmR.no _) (cube_Pick.C n) n (Code.go cube_Pick.code [1, 1, 1]) (bodyK (cube_Pick.C n) f118 cube_Pick.rs))) m0 ⟨[(2, .ptr 2 0 THeader []), (3, .ptr 3 0 THeader []), (6, .dat TCube v6), (7, .dat (.int .i64) v7)], [(2, .box 0 false (.dat THeader v2)), (3, .box 0 false (.dat THeader h))]⟩ = cube_Pick.l0 n v6 v2 m0 v7 h
  | 0, _, _ => rfl
  | m0 + 1, v7, h =>
    (cube_Pick.l0.step n m0 v6 v7 v2 h).trans (congr1 (fun k0 => cube_Pick.s0 n k0 v6 v7 v2 h) (funext fun v7' => funext fun h' => cube_Pick.l0.eq n v6 v2 m0 v7' h'))
theorem cube_Pick.run0 (n : Nat) (x : pdens cube_Pick.ps) : Vi.run (cube_Pick.C n) n f118 cube_Pick.ps cube_Pick.rs x = cube_Pick.s n (fun (v6' : Cube) (v7' : Int) (v2' : Header) (h' : Header) => it (EmR.no _) (cube_Pick.C n) n (Code.go cube_Pick.code [1, 1, 0, 1, 0, 0]) (blockK 0 (seqK (EmR.no _) (cube_Pick.C n) n (Code.go cube_Pick.code [1, 1, 1]) (bodyK (cube_Pick.C n) f118 cube_Pick.rs))) n ⟨[(2, .ptr 2 0 THeader []), (3, .ptr 3 0 THeader []), (6, .dat TCube (v6')), (7, .dat (.int .i64) (v7'))], [(2, .box 0 false (.dat THeader (v2'))), (3, .box 0 false (.dat THeader (h')))]⟩) x := by kernel_rfl
theorem cube_Pick.eq (n : Nat) (x : pdens cube_Pick.ps) : Vi.run (cube_Pick.C n) n f118 cube_Pick.ps cube_Pick.rs x = cube_Pick n x :=
  (cube_Pick.run0 n x).trans (congr1 (fun k0 => cube_Pick.s n k0 x) (funext fun v6' => funext fun v7' => funext fun v2' => funext fun h' => cube_Pick.l0.eq n v6' v2' n v7' h'))
theorem cube_Pick.sound (n : Nat) : SoundE prog 118 (cube_Pick.e n) :=
  soundE_of_run (C := cube_Pick.C n) (n := n) (cube_Pick.ok n) func118 (by kernel_rfl) (by kernel_rfl) (fun x r h => (cube_Pick.eq n x).trans h)

def cube_Clean_1.rs : List Ty := [TTern, .bool]
def cube_Clean_1.ps : List Ty := [(.int .i64)]
def cube_Clean_1.caps : List PTy := [.cptr TCube]
noncomputable def cube_Clean_1.e (n : Nat) : Cl := ⟨cube_Clean_1.ps, cube_Clean_1.caps, cube_Clean_1.rs, fun x c => cube_Clean_1 x c⟩
noncomputable def cube_Clean_1.C (n : Nat) : Ctx := { tab := tab, fts := fts, pts := pts, Γ := lookO [(126, tern_Clean.e n)], Γc := lookO [], Γs := lookO [], Γm := lookO [], Γo := lookO [], ntmps := f125.ntmps, keep := Vi.look ([], []) [], pins := [] }
theorem cube_Clean_1.ok (n : Nat) : CtxOk prog (cube_Clean_1.C n) := ⟨types, ftsOk_, ptsOk_, (fns_cons (tern_Clean.sound n) fns_nil), cls_nil, sqs_nil, ems_nil, mixed, ons_nil⟩
theorem cube_Clean_1.eq (n : Nat) (x : dens cube_Clean_1.ps) (c : pdens cube_Clean_1.caps) : Vi.runC (cube_Clean_1.C n) n f125 cube_Clean_1.ps cube_Clean_1.caps cube_Clean_1.rs x c = cube_Clean_1 x c := by kernel_rfl
theorem cube_Clean_1.sound (n : Nat) : SoundC prog 125 (cube_Clean_1.e n) :=
  soundC_of_run (C := cube_Clean_1.C n) (n := n) (cube_Clean_1.ok n) func125 (by kernel_rfl) (by kernel_rfl) (fun x c r h => (cube_Clean_1.eq n x c).trans h)

def cube_Clean.rs : List RTy := [.data TCube]
def cube_Clean.ps : List PTy := [.data TCube]
noncomputable def cube_Clean.e (n : Nat) : Ent := ⟨cube_Clean.ps, cube_Clean.rs, fun x => cube_Clean n x⟩
noncomputable def cube_Clean.C (n : Nat) : Ctx := { tab := tab, fts := fts, pts := pts, Γ := lookO [(124, cube_each.e n)], Γc := lookO [(125, cube_Clean_1.e n)], Γs := lookO [], Γm := lookO [], Γo := lookO [], ntmps := f73.ntmps, keep := Vi.look ([], []) [], pins := [], cold := [1] }
theorem cube_Clean.ok (n : Nat) : CtxOk prog (cube_Clean.C n) := ⟨types, ftsOk_, ptsOk_, (fns_cons (cube_each.sound n) fns_nil), (cls_cons (cube_Clean_1.sound n) cls_nil), sqs_nil, ems_nil, mixed, ons_nil⟩
theorem cube_Clean.eq (n : Nat) (x : pdens cube_Clean.ps) : Vi.run (cube_Clean.C n) n f73 cube_Clean.ps cube_Clean.rs x = cube_Clean n x := by kernel_rfl
theorem cube_Clean.sound (n : Nat) : SoundE prog 73 (cube_Clean.e n) :=
  soundE_of_run (C := cube_Clean.C n) (n := n) (cube_Clean.ok n) func73 (by kernel_rfl) (by kernel_rfl) (fun x r h => (cube_Clean.eq n x).trans h)

def math_bits_OnesCount64.rs : List RTy := [.data (.int .i64)]
def math_bits_OnesCount64.ps : List PTy := [.data (.int .u64)]
noncomputable def math_bits_OnesCount64.e (n : Nat) : Ent := ⟨math_bits_OnesCount64.ps, math_bits_OnesCount64.rs, fun x => some (math_bits_OnesCount64 x)⟩
noncomputable def math_bits_OnesCount64.C (n : Nat) : Ctx := { tab := tab, fts := fts, pts := pts, Γ := lookO [], Γc := lookO [], Γs := lookO [], Γm := lookO [], Γo := lookO [], ntmps := f158.ntmps, keep := Vi.look ([], []) [], pins := [] }
theorem math_bits_OnesCount64.ok (n : Nat) : CtxOk prog (math_bits_OnesCount64.C n) := ⟨types, ftsOk_, ptsOk_, fns_nil, cls_nil, sqs_nil, ems_nil, mixed, ons_nil⟩
theorem math_bits_OnesCount64.eq (n : Nat) (x : pdens math_bits_OnesCount64.ps) : Vi.run (math_bits_OnesCount64.C n) n f158 math_bits_OnesCount64.ps math_bits_OnesCount64.rs x = some (math_bits_OnesCount64 x) := by kernel_rfl
theorem math_bits_OnesCount64.sound (n : Nat) : SoundE prog 158 (math_bits_OnesCount64.e n) :=
  soundE_of_run (C := math_bits_OnesCount64.C n) (n := n) (math_bits_OnesCount64.ok n) func158 (by kernel_rfl) (by kernel_rfl) (fun x r h => (math_bits_OnesCount64.eq n x).trans h)

def wide_Many.rs : List RTy := [.data (.int .i64)]
def wide_Many.ps : List PTy := [.data TWide]
noncomputable def wide_Many.e (n : Nat) : Ent := ⟨wide_Many.ps, wide_Many.rs, fun x => some (wide_Many x)⟩
noncomputable def wide_Many.C (n : Nat) : Ctx := { tab := tab, fts := fts, pts := pts, Γ := lookO [(158, math_bits_OnesCount64.e n)], Γc := lookO [], Γs := lookO [], Γm := lookO [], Γo := lookO [], ntmps := f123.ntmps, keep := Vi.look ([], []) [], pins := [] }
theorem wide_Many.ok (n : Nat) : CtxOk prog (wide_Many.C n) := ⟨types, ftsOk_, ptsOk_, (fns_cons (math_bits_OnesCount64.sound n) fns_nil), cls_nil, sqs_nil, ems_nil, mixed, ons_nil⟩
theorem wide_Many.eq (n : Nat) (x : pdens wide_Many.ps) : Vi.run (wide_Many.C n) n f123 wide_Many.ps wide_Many.rs x = some (wide_Many x) := by kernel_rfl
theorem wide_Many.sound (n : Nat) : SoundE prog 123 (wide_Many.e n) :=
  soundE_of_run (C := wide_Many.C n) (n := n) (wide_Many.ok n) func123 (by kernel_rfl) (by kernel_rfl) (fun x r h => (wide_Many.eq n x).trans h)

def wide_Bit.rs : List RTy := [.data TWide]
def wide_Bit.ps : List PTy := [.data (.int .i64)]
noncomputable def wide_Bit.e (n : Nat) : Ent := ⟨wide_Bit.ps, wide_Bit.rs, fun x => wide_Bit x⟩
noncomputable def wide_Bit.C (n : Nat) : Ctx := { tab := tab, fts := fts, pts := pts, Γ := lookO [], Γc := lookO [], Γs := lookO [], Γm := lookO [], Γo := lookO [], ntmps := f173.ntmps, keep := Vi.look ([], []) [], pins := [] }
theorem wide_Bit.ok (n : Nat) : CtxOk prog (wide_Bit.C n) := ⟨types, ftsOk_, ptsOk_, fns_nil, cls_nil, sqs_nil, ems_nil, mixed, ons_nil⟩
theorem wide_Bit.eq (n : Nat) (x : pdens wide_Bit.ps) : Vi.run (wide_Bit.C n) n f173 wide_Bit.ps wide_Bit.rs x = wide_Bit x := by kernel_rfl
theorem wide_Bit.sound (n : Nat) : SoundE prog 173 (wide_Bit.e n) :=
  soundE_of_run (C := wide_Bit.C n) (n := n) (wide_Bit.ok n) func173 (by kernel_rfl) (by kernel_rfl) (fun x r h => (wide_Bit.eq n x).trans h)

def wide_Has.rs : List RTy := [.data .bool]
def wide_Has.ps : List PTy := [.data TWide, .data (.int .i64)]
noncomputable def wide_Has.e (n : Nat) : Ent := ⟨wide_Has.ps, wide_Has.rs, fun x => wide_Has x.1 x.2⟩
noncomputable def wide_Has.C (n : Nat) : Ctx := { tab := tab, fts := fts, pts := pts, Γ := lookO [(114, wide_Zero.e n), (147, wide_And.e n), (173, wide_Bit.e n)], Γc := lookO [], Γs := lookO [], Γm := lookO [], Γo := lookO [], ntmps := f152.ntmps, keep := Vi.look ([], []) [], pins := [], cold := [2] }
theorem wide_Has.ok (n : Nat) : CtxOk prog (wide_Has.C n) := ⟨types, ftsOk_, ptsOk_, (fns_cons (wide_Zero.sound n) (fns_cons (wide_And.sound n) (fns_cons (wide_Bit.sound n) fns_nil))), cls_nil, sqs_nil, ems_nil, mixed, ons_nil⟩
theorem wide_Has.eq (n : Nat) (x : pdens wide_Has.ps) : Vi.run (wide_Has.C n) n f152 wide_Has.ps wide_Has.rs x = wide_Has x.1 x.2 := by kernel_rfl
theorem wide_Has.sound (n : Nat) : SoundE prog 152 (wide_Has.e n) :=
  soundE_of_run (C := wide_Has.C n) (n := n) (wide_Has.ok n) func152 (by kernel_rfl) (by kernel_rfl) (fun x r h => (wide_Has.eq n x).trans h)

def tern_Bits.rs : List RTy := [.fresh (.int .i64)]
def tern_Bits.ps : List PTy := [.data TTern, .data TTern]
noncomputable def tern_Bits.e (n : Nat) : Ent := ⟨tern_Bits.ps, tern_Bits.rs, fun x => tern_Bits n x.1 x.2⟩
noncomputable def tern_Bits.C (n : Nat) : Ctx := { tab := tab, fts := fts, pts := pts, Γ := lookO [(123, wide_Many.e n), (152, wide_Has.e n), (172, wide_Less.e n)], Γc := lookO [], Γs := lookO [], Γm := lookO [], Γo := lookO [], ntmps := f151.ntmps, keep := Vi.look ([], []) [(4, ([5, 6, 7], [5]))], pins := [] }
theorem tern_Bits.ok (n : Nat) : CtxOk prog (tern_Bits.C n) := ⟨types, ftsOk_, ptsOk_, (fns_cons (wide_Many.sound n) (fns_cons (wide_Has.sound n) (fns_cons (wide_Less.sound n) fns_nil))), cls_nil, sqs_nil, ems_nil, mixed, ons_nil⟩
noncomputable def tern_Bits.code : Code := bodyOf f151
theorem tern_Bits.l0.step (n : Nat) (m0 : Nat) (out : (List Int)) (i : Int) (free : Wide) : it (EmR.no _) (tern_Bits.C n) n (Code.go tern_Bits.code [1, 1, 1, 0, 1, 0, 0]) (blockK 0 (seqK (EmR.no _) (tern_Bits.C n) n (Code.go tern_Bits.code [1, 1, 1, 1]) (bodyK (tern_Bits.C n) f151 tern_Bits.rs))) (m0 + 1) ⟨[(5, .ptr 5 0 TWide []), (6, .lst (.tip 100006 0) (.int .i64) out), (7, .dat (.int .i64) i)], [(100006, .tok 0), (5, .box 0 false (.dat TWide free))]⟩ = tern_Bits.s0 n (fun (out' : (List Int)) (i' : Int) => it (EmR.no _) (tern_Bits.C n) n (Code.go tern_Bits.code [1, 1, 1, 0, 1, 0, 0]) (blockK 0 (seqK (EmR.no _) (tern_Bits.C n) n (Code.go tern_Bits.code [1, 1, 1, 1]) (bodyK (tern_Bits.C n) f151 tern_Bits.rs))) m0 ⟨[(5, .ptr 5 0 TWide []), (6, .lst (.tip 100006 0) (.int .i64) (out')), (7, .dat (.int .i64) (i'))], [(100006, .tok 0), (5, .box 0 false (.dat TWide free))]⟩) out i free := by kernel_rfl
theorem tern_Bits.l0.eq (n : Nat) (free : Wide) : ∀ (m0 : Nat) (out : (List Int)) (i : Int), it (EmR.no _) (tern_Bits.C n) n (Code.go tern_Bits.code [1, 1, 1, 0, 1, 0, 0]) (blockK 0 (seqK (EmR.no _) (tern_Bits.C n) n (Code.go tern_Bits.code [1, 1, 1, 1]) (bodyK (tern_Bits.C n) f151 tern_Bits.rs))) m0 ⟨[(5, .ptr 5 0 TWide []), (6, .lst (.tip 100006 0) (.int .i64) out), (7, .dat (.int .i64) i)], [(100006, .tok 0), (5, .box 0 false (.dat TWide free))]⟩ = tern_Bits.l0 n free m0 out i
  | 0, _, _ => rfl
  | m0 + 1, out, i =>
    (tern_Bits.l0.step n m0 out i free).trans (congr1 (fun k0 => tern_Bits.s0 n k0 out i free) (funext fun out' => funext fun i' => tern_Bits.l0.eq n free m0 out' i'))
theorem tern_Bits.run0 (n : Nat) (x : pdens tern_Bits.ps) : Vi.run (tern_Bits.C n) n f151 tern_Bits.ps tern_Bits.rs x = tern_Bits.s n (fun (out' : (List Int)) (i' : Int) (free' : Wide) => it (EmR.no _) (tern_Bits.C n) n (Code.go tern_Bits.code [1, 1, 1, 0, 1, 0, 0]) (blockK 0 (seqK (EmR.no _) (tern_Bits.C n) n (Code.go tern_Bits.code [1, 1, 1, 1]) (bodyK (tern_Bits.C n) f151 tern_Bits.rs))) n ⟨[(5, .ptr 5 0 TWide []), (6, .lst (.tip 100006 0) (.int .i64) (out')), (7, .dat (.int .i64) (i'))], [(100006, .tok 0), (5, .box 0 false (.dat TWide (free')))]⟩) x.1 x.2 := by kernel_rfl
theorem tern_Bits.eq (n : Nat) (x : pdens tern_Bits.ps) : Vi.run (tern_Bits.C n) n f151 tern_Bits.ps tern_Bits.rs x = tern_Bits n x.1 x.2 :=
  (tern_Bits.run0 n x).trans (congr1 (fun k0 => tern_Bits.s n k0 x.1 x.2) (funext fun out' => funext fun i' => funext fun free' => tern_Bits.l0.eq n free' n out' i'))
theorem tern_Bits.sound (n : Nat) : SoundE prog 151 (tern_Bits.e n) :=
  soundE_of_run (C := tern_Bits.C n) (n := n) (tern_Bits.ok n) func151 (by kernel_rfl) (by kernel_rfl) (fun x r h => (tern_Bits.eq n x).trans h)

def tern_Fix.rs : List RTy := [.data TTern]
def tern_Fix.ps : List PTy := [.data TTern, .data (.int .i64), .data .bool]
noncomputable def tern_Fix.e (n : Nat) : Ent := ⟨tern_Fix.ps, tern_Fix.rs, fun x => tern_Fix x.1 x.2.1 x.2.2⟩
noncomputable def tern_Fix.C (n : Nat) : Ctx := { tab := tab, fts := fts, pts := pts, Γ := lookO [(126, tern_Clean.e n), (162, wide_Or.e n), (172, wide_Less.e n), (173, wide_Bit.e n)], Γc := lookO [], Γs := lookO [], Γm := lookO [], Γo := lookO [], ntmps := f153.ntmps, keep := Vi.look ([], []) [], pins := [] }
theorem tern_Fix.ok (n : Nat) : CtxOk prog (tern_Fix.C n) := ⟨types, ftsOk_, ptsOk_, (fns_cons (tern_Clean.sound n) (fns_cons (wide_Or.sound n) (fns_cons (wide_Less.sound n) (fns_cons (wide_Bit.sound n) fns_nil)))), cls_nil, sqs_nil, ems_nil, mixed, ons_nil⟩
theorem tern_Fix.eq (n : Nat) (x : pdens tern_Fix.ps) : Vi.run (tern_Fix.C n) n f153 tern_Fix.ps tern_Fix.rs x = tern_Fix x.1 x.2.1 x.2.2 := by kernel_rfl
theorem tern_Fix.sound (n : Nat) : SoundE prog 153 (tern_Fix.e n) :=
  soundE_of_run (C := tern_Fix.C n) (n := n) (tern_Fix.ok n) func153 (by kernel_rfl) (by kernel_rfl) (fun x r h => (tern_Fix.eq n x).trans h)

def carve_Parts_1.es : List Ty := [TCube]
def carve_Parts_1.ps : List PTy := []
def carve_Parts_1.caps : List PTy := [.cptr TCube, .cptr TCube]
noncomputable def carve_Parts_1.e (n : Nat) : Sq := ⟨carve_Parts_1.es, carve_Parts_1.ps, carve_Parts_1.caps, fun x c => carve_Parts_1 n c.1 c.2⟩
noncomputable def carve_Parts_1.C (n : Nat) : Ctx := { tab := tab, fts := fts, pts := pts, Γ := lookO [(73, cube_Clean.e n), (81, cube_Meet.e n), (151, tern_Bits.e n), (152, wide_Has.e n), (153, tern_Fix.e n)], Γc := lookO [], Γs := lookO [], Γm := lookO [], Γo := lookO [], ntmps := f150.ntmps, keep := Vi.look ([], []) [(5, ([0, 4, 27, 28], [4])), (10, ([0, 4, 7, 8, 27, 28, 40, 41, 42], [4, 8]))], pins := [] }
theorem carve_Parts_1.ok (n : Nat) : CtxOk prog (carve_Parts_1.C n) := ⟨types, ftsOk_, ptsOk_, (fns_cons (cube_Clean.sound n) (fns_cons (cube_Meet.sound n) (fns_cons (tern_Bits.sound n) (fns_cons (wide_Has.sound n) (fns_cons (tern_Fix.sound n) fns_nil))))), cls_nil, sqs_nil, ems_nil, mixed, ons_nil⟩
noncomputable def carve_Parts_1.code : Code := bodyOf f150
theorem carve_Parts_1.l1.step (n : Nat) (m0 : Nat) (m1 : Nat) (f : Int) (v27_1 : Cube) (v28_1 : Int) (v40 : (List Int)) (v41 : Int) (v42 : Int) (left_1 : Cube) (t : Tern) : it (EmR.seq carve_Parts_1.es) (carve_Parts_1.C n) n (Code.go carve_Parts_1.code [0, 1, 1, 1, 1, 0, 0, 1, 1, 0, 0, 1, 1, 1, 1, 0, 0]) (blockK 2 (blockK 1 (seqK (EmR.seq carve_Parts_1.es) (carve_Parts_1.C n) n (Code.go carve_Parts_1.code [0, 1, 1, 1, 1, 0, 0, 1, 1, 1]) (loopK (EmR.seq carve_Parts_1.es) (carve_Parts_1.C n) n (Code.go carve_Parts_1.code [0, 1, 1, 1, 1, 0, 0]) (blockK 0 (bodyKQ carve_Parts_1.es)) m0)))) (m1 + 1) ⟨[(0, .yld [TCube]), (4, .ptr 4 0 TCube []), (7, .dat (.int .i64) f), (8, .ptr 8 0 TTern []), (27, .dat TCube v27_1), (28, .dat (.int .i64) v28_1), (40, .lst (.tip 100040 0) (.int .i64) v40), (41, .dat (.int .i64) v41), (42, .dat (.int .i64) v42)], [(100040, .tok 0), (4, .box 0 false (.dat TCube left_1)), (8, .box 0 false (.dat TTern t))]⟩ = carve_Parts_1.s1 n (fun (v42' : Int) (left_1' : Cube) => it (EmR.seq carve_Parts_1.es) (carve_Parts_1.C n) n (Code.go carve_Parts_1.code [0, 1, 1, 1, 1, 0, 0, 1, 1, 0, 0, 1, 1, 1, 1, 0, 0]) (blockK 2 (blockK 1 (seqK (EmR.seq carve_Parts_1.es) (carve_Parts_1.C n) n (Code.go carve_Parts_1.code [0, 1, 1, 1, 1, 0, 0, 1, 1, 1]) (loopK (EmR.seq carve_Parts_1.es) (carve_Parts_1.C n) n (Code.go carve_Parts_1.code [0, 1, 1, 1, 1, 0, 0]) (blockK 0 (bodyKQ carve_Parts_1.es)) m0)))) m1 ⟨[(0, .yld [TCube]), (4, .ptr 4 0 TCube []), (7, .dat (.int .i64) f), (8, .ptr 8 0 TTern []), (27, .dat TCube v27_1), (28, .dat (.int .i64) v28_1), (40, .lst (.tip 100040 0) (.int .i64) v40), (41, .dat (.int .i64) v41), (42, .dat (.int .i64) (v42'))], [(100040, .tok 0), (4, .box 0 false (.dat TCube (left_1'))), (8, .box 0 false (.dat TTern t))]⟩) (fun (v27' : Cube) (v28' : Int) (left' : Cube) => it (EmR.seq carve_Parts_1.es) (carve_Parts_1.C n) n (Code.go carve_Parts_1.code [0, 1, 1, 1, 1, 0, 0]) (blockK 0 (bodyKQ carve_Parts_1.es)) m0 ⟨[(0, .yld [TCube]), (4, .ptr 4 0 TCube []), (27, .dat TCube (v27')), (28, .dat (.int .i64) (v28'))], [(4, .box 0 false (.dat TCube (left')))]⟩) f v27_1 v28_1 v40 v41 v42 left_1 t := by kernel_rfl
theorem carve_Parts_1.l1.eq (n : Nat) (m0 : Nat) (f : Int) (v27_1 : Cube) (v28_1 : Int) (v40 : (List Int)) (v41 : Int) (t : Tern) : ∀ (m1 : Nat) (v42 : Int) (left_1 : Cube), it (EmR.seq carve_Parts_1.es) (carve_Parts_1.C n) n (Code.go carve_Parts_1.code [0, 1, 1, 1, 1, 0, 0, 1, 1, 0, 0, 1, 1, 1, 1, 0, 0]) (blockK 2 (blockK 1 (seqK (EmR.seq carve_Parts_1.es) (carve_Parts_1.C n) n (Code.go carve_Parts_1.code [0, 1, 1, 1, 1, 0, 0, 1, 1, 1]) (loopK (EmR.seq carve_Parts_1.es) (carve_Parts_1.C n) n (Code.go carve_Parts_1.code [0, 1, 1, 1, 1, 0, 0]) (blockK 0 (bodyKQ carve_Parts_1.es)) m0)))) m1 ⟨[(0, .yld [TCube]), (4, .ptr 4 0 TCube []), (7, .dat (.int .i64) f), (8, .ptr 8 0 TTern []), (27, .dat TCube v27_1), (28, .dat (.int .i64) v28_1), (40, .lst (.tip 100040 0) (.int .i64) v40), (41, .dat (.int .i64) v41), (42, .dat (.int .i64) v42)], [(100040, .tok 0), (4, .box 0 false (.dat TCube left_1)), (8, .box 0 false (.dat TTern t))]⟩ = carve_Parts_1.l1 n f v27_1 v28_1 v40 v41 t (fun (v27'' : Cube) (v28'' : Int) (left'' : Cube) => it (EmR.seq carve_Parts_1.es) (carve_Parts_1.C n) n (Code.go carve_Parts_1.code [0, 1, 1, 1, 1, 0, 0]) (blockK 0 (bodyKQ carve_Parts_1.es)) m0 ⟨[(0, .yld [TCube]), (4, .ptr 4 0 TCube []), (27, .dat TCube (v27'')), (28, .dat (.int .i64) (v28''))], [(4, .box 0 false (.dat TCube (left'')))]⟩) m1 v42 left_1
  | 0, _, _ => rfl
  | m1 + 1, v42, left_1 =>
    (carve_Parts_1.l1.step n m0 m1 f v27_1 v28_1 v40 v41 v42 left_1 t).trans (congr2 (fun k1 k0 => carve_Parts_1.s1 n k1 k0 f v27_1 v28_1 v40 v41 v42 left_1 t) (funext fun v42' => funext fun left_1' => carve_Parts_1.l1.eq n m0 f v27_1 v28_1 v40 v41 t m1 v42' left_1') rfl)
theorem carve_Parts_1.l0.step (n : Nat) (m0 : Nat) (v27 : Cube) (v28 : Int) (left : Cube) : it (EmR.seq carve_Parts_1.es) (carve_Parts_1.C n) n (Code.go carve_Parts_1.code [0, 1, 1, 1, 1, 0, 0]) (blockK 0 (bodyKQ carve_Parts_1.es)) (m0 + 1) ⟨[(0, .yld [TCube]), (4, .ptr 4 0 TCube []), (27, .dat TCube v27), (28, .dat (.int .i64) v28)], [(4, .box 0 false (.dat TCube left))]⟩ = carve_Parts_1.s0 n (fun (v28' : Int) (left' : Cube) => it (EmR.seq carve_Parts_1.es) (carve_Parts_1.C n) n (Code.go carve_Parts_1.code [0, 1, 1, 1, 1, 0, 0]) (blockK 0 (bodyKQ carve_Parts_1.es)) m0 ⟨[(0, .yld [TCube]), (4, .ptr 4 0 TCube []), (27, .dat TCube v27), (28, .dat (.int .i64) (v28'))], [(4, .box 0 false (.dat TCube (left')))]⟩) (fun (f' : Int) (v27_1' : Cube) (v28_1' : Int) (v40' : (List Int)) (v41' : Int) (v42' : Int) (left_1' : Cube) (t' : Tern) => it (EmR.seq carve_Parts_1.es) (carve_Parts_1.C n) n (Code.go carve_Parts_1.code [0, 1, 1, 1, 1, 0, 0, 1, 1, 0, 0, 1, 1, 1, 1, 0, 0]) (blockK 2 (blockK 1 (seqK (EmR.seq carve_Parts_1.es) (carve_Parts_1.C n) n (Code.go carve_Parts_1.code [0, 1, 1, 1, 1, 0, 0, 1, 1, 1]) (loopK (EmR.seq carve_Parts_1.es) (carve_Parts_1.C n) n (Code.go carve_Parts_1.code [0, 1, 1, 1, 1, 0, 0]) (blockK 0 (bodyKQ carve_Parts_1.es)) m0)))) n ⟨[(0, .yld [TCube]), (4, .ptr 4 0 TCube []), (7, .dat (.int .i64) (f')), (8, .ptr 8 0 TTern []), (27, .dat TCube (v27_1')), (28, .dat (.int .i64) (v28_1')), (40, .lst (.tip 100040 0) (.int .i64) (v40')), (41, .dat (.int .i64) (v41')), (42, .dat (.int .i64) (v42'))], [(100040, .tok 0), (4, .box 0 false (.dat TCube (left_1'))), (8, .box 0 false (.dat TTern (t')))]⟩) v27 v28 left := by kernel_rfl
theorem carve_Parts_1.l0.eq (n : Nat) (v27 : Cube) : ∀ (m0 : Nat) (v28 : Int) (left : Cube), it (EmR.seq carve_Parts_1.es) (carve_Parts_1.C n) n (Code.go carve_Parts_1.code [0, 1, 1, 1, 1, 0, 0]) (blockK 0 (bodyKQ carve_Parts_1.es)) m0 ⟨[(0, .yld [TCube]), (4, .ptr 4 0 TCube []), (27, .dat TCube v27), (28, .dat (.int .i64) v28)], [(4, .box 0 false (.dat TCube left))]⟩ = carve_Parts_1.l0 n v27 m0 v28 left
  | 0, _, _ => rfl
  | m0 + 1, v28, left =>
    (carve_Parts_1.l0.step n m0 v27 v28 left).trans (congr2 (fun k0 k1 => carve_Parts_1.s0 n k0 k1 v27 v28 left) (funext fun v28' => funext fun left' => carve_Parts_1.l0.eq n v27 m0 v28' left') (funext fun f' => funext fun v27_1' => funext fun v28_1' => funext fun v40' => funext fun v41' => funext fun v42' => funext fun left_1' => funext fun t' => (carve_Parts_1.l1.eq n m0 f' v27_1' v28_1' v40' v41' t' n v42' left_1').trans (congr1 (fun kk => carve_Parts_1.l1 n f' v27_1' v28_1' v40' v41' t' kk n v42' left_1') (funext fun v27'' => funext fun v28'' => funext fun left'' => carve_Parts_1.l0.eq n v27'' m0 v28'' left''))))
theorem carve_Parts_1.run0 (n : Nat) (x : pdens carve_Parts_1.ps) (c : pdens carve_Parts_1.caps) : Vi.runQ (carve_Parts_1.C n) n f150 carve_Parts_1.ps carve_Parts_1.es carve_Parts_1.caps x c = carve_Parts_1.s n (fun (v27' : Cube) (v28' : Int) (left' : Cube) => it (EmR.seq carve_Parts_1.es) (carve_Parts_1.C n) n (Code.go carve_Parts_1.code [0, 1, 1, 1, 1, 0, 0]) (blockK 0 (bodyKQ carve_Parts_1.es)) n ⟨[(0, .yld [TCube]), (4, .ptr 4 0 TCube []), (27, .dat TCube (v27')), (28, .dat (.int .i64) (v28'))], [(4, .box 0 false (.dat TCube (left')))]⟩) c.1 c.2 := by kernel_rfl
theorem carve_Parts_1.eq (n : Nat) (x : pdens carve_Parts_1.ps) (c : pdens carve_Parts_1.caps) : Vi.runQ (carve_Parts_1.C n) n f150 carve_Parts_1.ps carve_Parts_1.es carve_Parts_1.caps x c = carve_Parts_1 n c.1 c.2 :=
  (carve_Parts_1.run0 n x c).trans (congr1 (fun k0 => carve_Parts_1.s n k0 c.1 c.2) (funext fun v27' => funext fun v28' => funext fun left' => carve_Parts_1.l0.eq n v27' n v28' left'))
theorem carve_Parts_1.sound (n : Nat) : SoundQ prog 150 (carve_Parts_1.e n) :=
  soundQ_of_run (C := carve_Parts_1.C n) (n := n) (carve_Parts_1.ok n) func150 (by kernel_rfl) (by kernel_rfl) (fun x c r h => (carve_Parts_1.eq n x c).trans h)

def carve_Parts.rs : List RTy := [.seqr [TCube]]
def carve_Parts.ps : List PTy := [.data TCube, .data TCube]
noncomputable def carve_Parts.e (n : Nat) : Ent := ⟨carve_Parts.ps, carve_Parts.rs, fun x => carve_Parts n x.1 x.2⟩
noncomputable def carve_Parts.C (n : Nat) : Ctx := { tab := tab, fts := fts, pts := pts, Γ := lookO [], Γc := lookO [], Γs := lookO [(150, carve_Parts_1.e n)], Γm := lookO [], Γo := lookO [], ntmps := f119.ntmps, keep := Vi.look ([], []) [], pins := [], cold := [2, 3] }
theorem carve_Parts.ok (n : Nat) : CtxOk prog (carve_Parts.C n) := ⟨types, ftsOk_, ptsOk_, fns_nil, cls_nil, (sqs_cons (carve_Parts_1.sound n) sqs_nil), ems_nil, mixed, ons_nil⟩
theorem carve_Parts.eq (n : Nat) (x : pdens carve_Parts.ps) : Vi.run (carve_Parts.C n) n f119 carve_Parts.ps carve_Parts.rs x = carve_Parts n x.1 x.2 := by kernel_rfl
theorem carve_Parts.sound (n : Nat) : SoundE prog 119 (carve_Parts.e n) :=
  soundE_of_run (C := carve_Parts.C n) (n := n) (carve_Parts.ok n) func119 (by kernel_rfl) (by kernel_rfl) (fun x r h => (carve_Parts.eq n x).trans h)

def cover_look_at.rs : List RTy := [.data THeader, .data .bool, .data .bool]
def cover_look_at.τ : Ty := TLook
def cover_look_at.ps : List PTy := [.data TCube, .data (.slc TCube)]
noncomputable def cover_look_at.e (n k : Nat) : Em := ⟨cover_look_at.τ, cover_look_at.ps, cover_look_at.rs, fun y x => cover_look_at n k y x.1 x.2⟩
noncomputable def cover_look_at.C (n k : Nat) : Ctx := { tab := tab, fts := fts, pts := pts, Γ := lookO [(117, cover_among.e n), (118, cube_Pick.e n), (119, carve_Parts.e n)], Γc := lookO [], Γs := lookO [], Γm := lookO [(70, cover_look_at.e n k), (116, cover_purse_pay.e n)], Γo := lookO [], ntmps := f70.ntmps, keep := Vi.look ([], []) [(100011, ([0, 3, 5, 6, 10, 11, 12, 13], [0, 3, 5, 6, 10, 11, 12, 13]))], pins := [0], cold := [3, 4, 5] }
theorem cover_look_at.ok (n k : Nat) (hrec : SoundM prog 70 (cover_look_at.e n k)) : CtxOk prog (cover_look_at.C n k) := ⟨types, ftsOk_, ptsOk_, (fns_cons (cover_among.sound n) (fns_cons (cube_Pick.sound n) (fns_cons (carve_Parts.sound n) fns_nil))), cls_nil, sqs_nil, (ems_cons hrec (ems_cons (cover_purse_pay.sound n) ems_nil)), mixed, ons_nil⟩
noncomputable def cover_look_at.code : Code := bodyOf f70
theorem cover_look_at.l0.stepz (n k : Nat) (s_1 : Purse) (l_1 : (List Cube)) (v6 : Header) (i : Int) (h : Header) (found : Bool) (enough : Bool) : itS (EmR.no _) (cover_look_at.C n k) n (Code.go cover_look_at.code [1, 0, 1, 1, 1, 1, 1, 1, 0, 1, 0]) [TCube] [(0, .ptr 0 0 TLook []), (3, .ptr 3 0 .unit []), (5, .ptr 5 0 (.slc TCube) []), (6, .ptr 6 0 THeader []), (10, .ptr 10 0 (.int .i64) []), (11, .ptr 11 0 THeader []), (12, .ptr 12 0 .bool []), (13, .ptr 13 0 .bool [])] (blockK 1 (seqK (EmR.no _) (cover_look_at.C n k) n (Code.go cover_look_at.code [1, 0, 1, 1, 1, 1, 1, 1, 1]) (bodyKM (cover_look_at.C n k) f70 cover_look_at.τ cover_look_at.rs))) [] [(0, .box 0 false (.dat TLook s_1)), (3, .box 0 false (.ptr 0 0 TLook [])), (5, .box 0 true (.dat (.slc TCube) l_1)), (6, .box 0 false (.dat THeader v6)), (10, .box 0 false (.dat (.int .i64) i)), (11, .box 0 false (.dat THeader h)), (12, .box 0 false (.dat .bool found)), (13, .box 0 false (.dat .bool enough))] = cover_look_at.z0 n (cover_look_at n k) s_1 l_1 v6 i h found enough := by kernel_rfl
theorem cover_look_at.l0.step (n k : Nat) (xs : (List Cube)) (s_1 : Purse) (l_1 : (List Cube)) (v6 : Header) (i : Int) (h : Header) (found : Bool) (enough : Bool) (x : Cube) : itS (EmR.no _) (cover_look_at.C n k) n (Code.go cover_look_at.code [1, 0, 1, 1, 1, 1, 1, 1, 0, 1, 0]) [TCube] [(0, .ptr 0 0 TLook []), (3, .ptr 3 0 .unit []), (5, .ptr 5 0 (.slc TCube) []), (6, .ptr 6 0 THeader []), (10, .ptr 10 0 (.int .i64) []), (11, .ptr 11 0 THeader []), (12, .ptr 12 0 .bool []), (13, .ptr 13 0 .bool [])] (blockK 1 (seqK (EmR.no _) (cover_look_at.C n k) n (Code.go cover_look_at.code [1, 0, 1, 1, 1, 1, 1, 1, 1]) (bodyKM (cover_look_at.C n k) f70 cover_look_at.τ cover_look_at.rs))) (x :: xs) [(0, .box 0 false (.dat TLook s_1)), (3, .box 0 false (.ptr 0 0 TLook [])), (5, .box 0 true (.dat (.slc TCube) l_1)), (6, .box 0 false (.dat THeader v6)), (10, .box 0 false (.dat (.int .i64) i)), (11, .box 0 false (.dat THeader h)), (12, .box 0 false (.dat .bool found)), (13, .box 0 false (.dat .bool enough))] = cover_look_at.s0 n (cover_look_at n k) (fun (s_1' : Purse) (h' : Header) (found' : Bool) (enough' : Bool) => itS (EmR.no _) (cover_look_at.C n k) n (Code.go cover_look_at.code [1, 0, 1, 1, 1, 1, 1, 1, 0, 1, 0]) [TCube] [(0, .ptr 0 0 TLook []), (3, .ptr 3 0 .unit []), (5, .ptr 5 0 (.slc TCube) []), (6, .ptr 6 0 THeader []), (10, .ptr 10 0 (.int .i64) []), (11, .ptr 11 0 THeader []), (12, .ptr 12 0 .bool []), (13, .ptr 13 0 .bool [])] (blockK 1 (seqK (EmR.no _) (cover_look_at.C n k) n (Code.go cover_look_at.code [1, 0, 1, 1, 1, 1, 1, 1, 1]) (bodyKM (cover_look_at.C n k) f70 cover_look_at.τ cover_look_at.rs))) xs [(0, .box 0 false (.dat TLook (s_1'))), (3, .box 0 false (.ptr 0 0 TLook [])), (5, .box 0 true (.dat (.slc TCube) l_1)), (6, .box 0 false (.dat THeader v6)), (10, .box 0 false (.dat (.int .i64) i)), (11, .box 0 false (.dat THeader (h'))), (12, .box 0 false (.dat .bool (found'))), (13, .box 0 false (.dat .bool (enough')))]) s_1 l_1 v6 i h found enough x := by kernel_rfl
theorem cover_look_at.l0.eq (n k : Nat) (l_1 : (List Cube)) (v6 : Header) (i : Int) : ∀ (xs : (List Cube)) (s_1 : Purse) (h : Header) (found : Bool) (enough : Bool), itS (EmR.no _) (cover_look_at.C n k) n (Code.go cover_look_at.code [1, 0, 1, 1, 1, 1, 1, 1, 0, 1, 0]) [TCube] [(0, .ptr 0 0 TLook []), (3, .ptr 3 0 .unit []), (5, .ptr 5 0 (.slc TCube) []), (6, .ptr 6 0 THeader []), (10, .ptr 10 0 (.int .i64) []), (11, .ptr 11 0 THeader []), (12, .ptr 12 0 .bool []), (13, .ptr 13 0 .bool [])] (blockK 1 (seqK (EmR.no _) (cover_look_at.C n k) n (Code.go cover_look_at.code [1, 0, 1, 1, 1, 1, 1, 1, 1]) (bodyKM (cover_look_at.C n k) f70 cover_look_at.τ cover_look_at.rs))) xs [(0, .box 0 false (.dat TLook s_1)), (3, .box 0 false (.ptr 0 0 TLook [])), (5, .box 0 true (.dat (.slc TCube) l_1)), (6, .box 0 false (.dat THeader v6)), (10, .box 0 false (.dat (.int .i64) i)), (11, .box 0 false (.dat THeader h)), (12, .box 0 false (.dat .bool found)), (13, .box 0 false (.dat .bool enough))] = cover_look_at.l0 n (cover_look_at n k) l_1 v6 i xs s_1 h found enough
  | [], s_1, h, found, enough => cover_look_at.l0.stepz n k s_1 l_1 v6 i h found enough
  | x :: xs, s_1, h, found, enough => (cover_look_at.l0.step n k xs s_1 l_1 v6 i h found enough x).trans (congr1 (fun k0 => cover_look_at.s0 n (cover_look_at n k) k0 s_1 l_1 v6 i h found enough x) (funext fun s_1' => funext fun h' => funext fun found' => funext fun enough' => cover_look_at.l0.eq n k l_1 v6 i xs s_1' h' found' enough'))
theorem cover_look_at.run0 (n k : Nat) (y : Ty.den cover_look_at.τ) (x : pdens cover_look_at.ps) : Vi.runM (cover_look_at.C n k) n f70 cover_look_at.τ cover_look_at.ps cover_look_at.rs y x = cover_look_at.s n (cover_look_at n k) (fun (xs' : (List Cube)) (s_1' : Purse) (l_1' : (List Cube)) (v6' : Header) (i' : Int) (h' : Header) (found' : Bool) (enough' : Bool) => itS (EmR.no _) (cover_look_at.C n k) n (Code.go cover_look_at.code [1, 0, 1, 1, 1, 1, 1, 1, 0, 1, 0]) [TCube] [(0, .ptr 0 0 TLook []), (3, .ptr 3 0 .unit []), (5, .ptr 5 0 (.slc TCube) []), (6, .ptr 6 0 THeader []), (10, .ptr 10 0 (.int .i64) []), (11, .ptr 11 0 THeader []), (12, .ptr 12 0 .bool []), (13, .ptr 13 0 .bool [])] (blockK 1 (seqK (EmR.no _) (cover_look_at.C n k) n (Code.go cover_look_at.code [1, 0, 1, 1, 1, 1, 1, 1, 1]) (bodyKM (cover_look_at.C n k) f70 cover_look_at.τ cover_look_at.rs))) xs' [(0, .box 0 false (.dat TLook (s_1'))), (3, .box 0 false (.ptr 0 0 TLook [])), (5, .box 0 true (.dat (.slc TCube) (l_1'))), (6, .box 0 false (.dat THeader (v6'))), (10, .box 0 false (.dat (.int .i64) (i'))), (11, .box 0 false (.dat THeader (h'))), (12, .box 0 false (.dat .bool (found'))), (13, .box 0 false (.dat .bool (enough')))]) y x.1 x.2 := by kernel_rfl
theorem cover_look_at.eq (n k : Nat) (y : Ty.den cover_look_at.τ) (x : pdens cover_look_at.ps) : Vi.runM (cover_look_at.C n k) n f70 cover_look_at.τ cover_look_at.ps cover_look_at.rs y x = cover_look_at n (k + 1) y x.1 x.2 :=
  (cover_look_at.run0 n k y x).trans (congr1 (fun k0 => cover_look_at.s n (cover_look_at n k) k0 y x.1 x.2) (funext fun xs' => funext fun s_1' => funext fun l_1' => funext fun v6' => funext fun i' => funext fun h' => funext fun found' => funext fun enough' => cover_look_at.l0.eq n k l_1' v6' i' xs' s_1' h' found' enough'))
theorem cover_look_at.sound (n : Nat) : ∀ k, SoundM prog 70 (cover_look_at.e n k)
  | 0 => soundM_none func70 (by kernel_rfl) (by kernel_rfl) (fun _ _ => rfl)
  | k + 1 => soundM_of_run (C := cover_look_at.C n k) (n := n) (cover_look_at.ok n k (cover_look_at.sound n k)) func70 (by kernel_rfl) (by kernel_rfl) (fun y x r h => (cover_look_at.eq n k y x).trans h)

def cover_Look.rs : List RTy := [.data THeader, .data .bool, .data (.int .i64)]
def cover_Look.ps : List PTy := [.data TCube, .data (.slc TCube), .data (.int .i64)]
noncomputable def cover_Look.e (n : Nat) : Ent := ⟨cover_Look.ps, cover_Look.rs, fun x => cover_Look n x.1 x.2.1 x.2.2⟩
noncomputable def cover_Look.C (n : Nat) : Ctx := { tab := tab, fts := fts, pts := pts, Γ := lookO [], Γc := lookO [], Γs := lookO [], Γm := lookO [(70, cover_look_at.e n n)], Γo := lookO [], ntmps := f22.ntmps, keep := Vi.look ([], []) [], pins := [], cold := [3] }
theorem cover_Look.ok (n : Nat) : CtxOk prog (cover_Look.C n) := ⟨types, ftsOk_, ptsOk_, fns_nil, cls_nil, sqs_nil, (ems_cons (cover_look_at.sound n n) ems_nil), mixed, ons_nil⟩
theorem cover_Look.eq (n : Nat) (x : pdens cover_Look.ps) : Vi.run (cover_Look.C n) n f22 cover_Look.ps cover_Look.rs x = cover_Look n x.1 x.2.1 x.2.2 := by kernel_rfl
theorem cover_Look.sound (n : Nat) : SoundE prog 22 (cover_Look.e n) :=
  soundE_of_run (C := cover_Look.C n) (n := n) (cover_Look.ok n) func22 (by kernel_rfl) (by kernel_rfl) (fun x r h => (cover_Look.eq n x).trans h)

def cover_Meets.rs : List RTy := [.fresh TCube]
def cover_Meets.ps : List PTy := [.data TCube, .data (.slc TCube)]
noncomputable def cover_Meets.e (n : Nat) : Ent := ⟨cover_Meets.ps, cover_Meets.rs, fun x => cover_Meets n x.1 x.2⟩
noncomputable def cover_Meets.C (n : Nat) : Ctx := { tab := tab, fts := fts, pts := pts, Γ := lookO [(81, cube_Meet.e n)], Γc := lookO [], Γs := lookO [], Γm := lookO [], Γo := lookO [], ntmps := f33.ntmps, keep := Vi.look ([], []) [(3, ([2, 5, 10, 11, 12], [2]))], pins := [], cold := [2] }
theorem cover_Meets.ok (n : Nat) : CtxOk prog (cover_Meets.C n) := ⟨types, ftsOk_, ptsOk_, (fns_cons (cube_Meet.sound n) fns_nil), cls_nil, sqs_nil, ems_nil, mixed, ons_nil⟩
noncomputable def cover_Meets.code : Code := bodyOf f33
theorem cover_Meets.l0.step (n : Nat) (m0 : Nat) (out : (List Cube)) (v10 : (List Cube)) (v11 : Int) (v12 : Int) (c_1 : Cube) : it (EmR.no _) (cover_Meets.C n) n (Code.go cover_Meets.code [1, 1, 0, 1, 0, 0]) (blockK 0 (seqK (EmR.no _) (cover_Meets.C n) n (Code.go cover_Meets.code [1, 1, 1]) (bodyK (cover_Meets.C n) f33 cover_Meets.rs))) (m0 + 1) ⟨[(2, .ptr 2 0 TCube []), (5, .lst (.tip 100005 0) TCube out), (10, .dat (.slc TCube) v10), (11, .dat (.int .i64) v11), (12, .dat (.int .i64) v12)], [(100005, .tok 0), (2, .box 0 true (.dat TCube c_1))]⟩ = cover_Meets.s0 n (fun (out' : (List Cube)) (v12' : Int) => it (EmR.no _) (cover_Meets.C n) n (Code.go cover_Meets.code [1, 1, 0, 1, 0, 0]) (blockK 0 (seqK (EmR.no _) (cover_Meets.C n) n (Code.go cover_Meets.code [1, 1, 1]) (bodyK (cover_Meets.C n) f33 cover_Meets.rs))) m0 ⟨[(2, .ptr 2 0 TCube []), (5, .lst (.tip 100005 0) TCube (out')), (10, .dat (.slc TCube) v10), (11, .dat (.int .i64) v11), (12, .dat (.int .i64) (v12'))], [(100005, .tok 0), (2, .box 0 true (.dat TCube c_1))]⟩) out v10 v11 v12 c_1 := by kernel_rfl
theorem cover_Meets.l0.eq (n : Nat) (v10 : (List Cube)) (v11 : Int) (c_1 : Cube) : ∀ (m0 : Nat) (out : (List Cube)) (v12 : Int), it (EmR.no _) (cover_Meets.C n) n (Code.go cover_Meets.code [1, 1, 0, 1, 0, 0]) (blockK 0 (seqK (EmR.no _) (cover_Meets.C n) n (Code.go cover_Meets.code [1, 1, 1]) (bodyK (cover_Meets.C n) f33 cover_Meets.rs))) m0 ⟨[(2, .ptr 2 0 TCube []), (5, .lst (.tip 100005 0) TCube out), (10, .dat (.slc TCube) v10), (11, .dat (.int .i64) v11), (12, .dat (.int .i64) v12)], [(100005, .tok 0), (2, .box 0 true (.dat TCube c_1))]⟩ = cover_Meets.l0 n v10 v11 c_1 m0 out v12
  | 0, _, _ => rfl
  | m0 + 1, out, v12 =>
    (cover_Meets.l0.step n m0 out v10 v11 v12 c_1).trans (congr1 (fun k0 => cover_Meets.s0 n k0 out v10 v11 v12 c_1) (funext fun out' => funext fun v12' => cover_Meets.l0.eq n v10 v11 c_1 m0 out' v12'))
theorem cover_Meets.run0 (n : Nat) (x : pdens cover_Meets.ps) : Vi.run (cover_Meets.C n) n f33 cover_Meets.ps cover_Meets.rs x = cover_Meets.s n (fun (out' : (List Cube)) (v10' : (List Cube)) (v11' : Int) (v12' : Int) (c_1' : Cube) => it (EmR.no _) (cover_Meets.C n) n (Code.go cover_Meets.code [1, 1, 0, 1, 0, 0]) (blockK 0 (seqK (EmR.no _) (cover_Meets.C n) n (Code.go cover_Meets.code [1, 1, 1]) (bodyK (cover_Meets.C n) f33 cover_Meets.rs))) n ⟨[(2, .ptr 2 0 TCube []), (5, .lst (.tip 100005 0) TCube (out')), (10, .dat (.slc TCube) (v10')), (11, .dat (.int .i64) (v11')), (12, .dat (.int .i64) (v12'))], [(100005, .tok 0), (2, .box 0 true (.dat TCube (c_1')))]⟩) x.1 x.2 := by kernel_rfl
theorem cover_Meets.eq (n : Nat) (x : pdens cover_Meets.ps) : Vi.run (cover_Meets.C n) n f33 cover_Meets.ps cover_Meets.rs x = cover_Meets n x.1 x.2 :=
  (cover_Meets.run0 n x).trans (congr1 (fun k0 => cover_Meets.s n k0 x.1 x.2) (funext fun out' => funext fun v10' => funext fun v11' => funext fun v12' => funext fun c_1' => cover_Meets.l0.eq n v10' v11' c_1' n out' v12'))
theorem cover_Meets.sound (n : Nat) : SoundE prog 33 (cover_Meets.e n) :=
  soundE_of_run (C := cover_Meets.C n) (n := n) (cover_Meets.ok n) func33 (by kernel_rfl) (by kernel_rfl) (fun x r h => (cover_Meets.eq n x).trans h)

def cube_Size.rs : List RTy := [.data (.int .i64)]
def cube_Size.ps : List PTy := [.data TCube]
noncomputable def cube_Size.e (n : Nat) : Ent := ⟨cube_Size.ps, cube_Size.rs, fun x => cube_Size n x⟩
noncomputable def cube_Size.C (n : Nat) : Ctx := { tab := tab, fts := fts, pts := pts, Γ := lookO [(123, wide_Many.e n)], Γc := lookO [], Γs := lookO [], Γm := lookO [], Γo := lookO [], ntmps := f72.ntmps, keep := Vi.look ([], []) [(3, ([3, 6, 7], []))], pins := [], cold := [1] }
theorem cube_Size.ok (n : Nat) : CtxOk prog (cube_Size.C n) := ⟨types, ftsOk_, ptsOk_, (fns_cons (wide_Many.sound n) fns_nil), cls_nil, sqs_nil, ems_nil, mixed, ons_nil⟩
noncomputable def cube_Size.code : Code := bodyOf f72
theorem cube_Size.l0.step (n : Nat) (m0 : Nat) (n3 : Int) (v6 : Cube) (v7 : Int) : it (EmR.no _) (cube_Size.C n) n (Code.go cube_Size.code [1, 1, 0, 1, 0, 0]) (blockK 0 (seqK (EmR.no _) (cube_Size.C n) n (Code.go cube_Size.code [1, 1, 1]) (bodyK (cube_Size.C n) f72 cube_Size.rs))) (m0 + 1) ⟨[(3, .dat (.int .i64) n3), (6, .dat TCube v6), (7, .dat (.int .i64) v7)], []⟩ = cube_Size.s0 n (fun (n3' : Int) (v7' : Int) => it (EmR.no _) (cube_Size.C n) n (Code.go cube_Size.code [1, 1, 0, 1, 0, 0]) (blockK 0 (seqK (EmR.no _) (cube_Size.C n) n (Code.go cube_Size.code [1, 1, 1]) (bodyK (cube_Size.C n) f72 cube_Size.rs))) m0 ⟨[(3, .dat (.int .i64) (n3')), (6, .dat TCube v6), (7, .dat (.int .i64) (v7'))], []⟩) n3 v6 v7 := by kernel_rfl
theorem cube_Size.l0.eq (n : Nat) (v6 : Cube) : ∀ (m0 : Nat) (n3 : Int) (v7 : Int), it (EmR.no _) (cube_Size.C n) n (Code.go cube_Size.code [1, 1, 0, 1, 0, 0]) (blockK 0 (seqK (EmR.no _) (cube_Size.C n) n (Code.go cube_Size.code [1, 1, 1]) (bodyK (cube_Size.C n) f72 cube_Size.rs))) m0 ⟨[(3, .dat (.int .i64) n3), (6, .dat TCube v6), (7, .dat (.int .i64) v7)], []⟩ = cube_Size.l0 n v6 m0 n3 v7
  | 0, _, _ => rfl
  | m0 + 1, n3, v7 =>
    (cube_Size.l0.step n m0 n3 v6 v7).trans (congr1 (fun k0 => cube_Size.s0 n k0 n3 v6 v7) (funext fun n3' => funext fun v7' => cube_Size.l0.eq n v6 m0 n3' v7'))
theorem cube_Size.run0 (n : Nat) (x : pdens cube_Size.ps) : Vi.run (cube_Size.C n) n f72 cube_Size.ps cube_Size.rs x = cube_Size.s n (fun (n3' : Int) (v6' : Cube) (v7' : Int) => it (EmR.no _) (cube_Size.C n) n (Code.go cube_Size.code [1, 1, 0, 1, 0, 0]) (blockK 0 (seqK (EmR.no _) (cube_Size.C n) n (Code.go cube_Size.code [1, 1, 1]) (bodyK (cube_Size.C n) f72 cube_Size.rs))) n ⟨[(3, .dat (.int .i64) (n3')), (6, .dat TCube (v6')), (7, .dat (.int .i64) (v7'))], []⟩) x := by kernel_rfl
theorem cube_Size.eq (n : Nat) (x : pdens cube_Size.ps) : Vi.run (cube_Size.C n) n f72 cube_Size.ps cube_Size.rs x = cube_Size n x :=
  (cube_Size.run0 n x).trans (congr1 (fun k0 => cube_Size.s n k0 x) (funext fun n3' => funext fun v6' => funext fun v7' => cube_Size.l0.eq n v6' n n3' v7'))
theorem cube_Size.sound (n : Nat) : SoundE prog 72 (cube_Size.e n) :=
  soundE_of_run (C := cube_Size.C n) (n := n) (cube_Size.ok n) func72 (by kernel_rfl) (by kernel_rfl) (fun x r h => (cube_Size.eq n x).trans h)

def cover_Bound.rs : List RTy := [.data (.int .i64)]
def cover_Bound.ps : List PTy := [.data TCube, .data (.slc TCube)]
noncomputable def cover_Bound.e (n : Nat) : Ent := ⟨cover_Bound.ps, cover_Bound.rs, fun x => cover_Bound n x.1 x.2⟩
noncomputable def cover_Bound.C (n : Nat) : Ctx := { tab := tab, fts := fts, pts := pts, Γ := lookO [(33, cover_Meets.e n), (72, cube_Size.e n)], Γc := lookO [], Γs := lookO [], Γm := lookO [], Γo := lookO [], ntmps := f24.ntmps, keep := Vi.look ([], []) [(4, ([6, 16, 17, 18], []))], pins := [], cold := [2] }
theorem cover_Bound.ok (n : Nat) : CtxOk prog (cover_Bound.C n) := ⟨types, ftsOk_, ptsOk_, (fns_cons (cover_Meets.sound n) (fns_cons (cube_Size.sound n) fns_nil)), cls_nil, sqs_nil, ems_nil, mixed, ons_nil⟩
noncomputable def cover_Bound.code : Code := bodyOf f24
theorem cover_Bound.l0.step (n : Nat) (m0 : Nat) (n6 : Int) (v16 : (List Cube)) (v17 : Int) (v18 : Int) : it (EmR.no _) (cover_Bound.C n) n (Code.go cover_Bound.code [1, 1, 1, 0, 1, 0, 0]) (blockK 0 (seqK (EmR.no _) (cover_Bound.C n) n (Code.go cover_Bound.code [1, 1, 1, 1]) (bodyK (cover_Bound.C n) f24 cover_Bound.rs))) (m0 + 1) ⟨[(6, .dat (.int .i64) n6), (16, .lst (.tip 100016 0) TCube v16), (17, .dat (.int .i64) v17), (18, .dat (.int .i64) v18)], [(100016, .tok 0)]⟩ = cover_Bound.s0 n (fun (n6' : Int) (v18' : Int) => it (EmR.no _) (cover_Bound.C n) n (Code.go cover_Bound.code [1, 1, 1, 0, 1, 0, 0]) (blockK 0 (seqK (EmR.no _) (cover_Bound.C n) n (Code.go cover_Bound.code [1, 1, 1, 1]) (bodyK (cover_Bound.C n) f24 cover_Bound.rs))) m0 ⟨[(6, .dat (.int .i64) (n6')), (16, .lst (.tip 100016 0) TCube v16), (17, .dat (.int .i64) v17), (18, .dat (.int .i64) (v18'))], [(100016, .tok 0)]⟩) n6 v16 v17 v18 := by kernel_rfl
theorem cover_Bound.l0.eq (n : Nat) (v16 : (List Cube)) (v17 : Int) : ∀ (m0 : Nat) (n6 : Int) (v18 : Int), it (EmR.no _) (cover_Bound.C n) n (Code.go cover_Bound.code [1, 1, 1, 0, 1, 0, 0]) (blockK 0 (seqK (EmR.no _) (cover_Bound.C n) n (Code.go cover_Bound.code [1, 1, 1, 1]) (bodyK (cover_Bound.C n) f24 cover_Bound.rs))) m0 ⟨[(6, .dat (.int .i64) n6), (16, .lst (.tip 100016 0) TCube v16), (17, .dat (.int .i64) v17), (18, .dat (.int .i64) v18)], [(100016, .tok 0)]⟩ = cover_Bound.l0 n v16 v17 m0 n6 v18
  | 0, _, _ => rfl
  | m0 + 1, n6, v18 =>
    (cover_Bound.l0.step n m0 n6 v16 v17 v18).trans (congr1 (fun k0 => cover_Bound.s0 n k0 n6 v16 v17 v18) (funext fun n6' => funext fun v18' => cover_Bound.l0.eq n v16 v17 m0 n6' v18'))
theorem cover_Bound.run0 (n : Nat) (x : pdens cover_Bound.ps) : Vi.run (cover_Bound.C n) n f24 cover_Bound.ps cover_Bound.rs x = cover_Bound.s n (fun (n6' : Int) (v16' : (List Cube)) (v17' : Int) (v18' : Int) => it (EmR.no _) (cover_Bound.C n) n (Code.go cover_Bound.code [1, 1, 1, 0, 1, 0, 0]) (blockK 0 (seqK (EmR.no _) (cover_Bound.C n) n (Code.go cover_Bound.code [1, 1, 1, 1]) (bodyK (cover_Bound.C n) f24 cover_Bound.rs))) n ⟨[(6, .dat (.int .i64) (n6')), (16, .lst (.tip 100016 0) TCube (v16')), (17, .dat (.int .i64) (v17')), (18, .dat (.int .i64) (v18'))], [(100016, .tok 0)]⟩) x.1 x.2 := by kernel_rfl
theorem cover_Bound.eq (n : Nat) (x : pdens cover_Bound.ps) : Vi.run (cover_Bound.C n) n f24 cover_Bound.ps cover_Bound.rs x = cover_Bound n x.1 x.2 :=
  (cover_Bound.run0 n x).trans (congr1 (fun k0 => cover_Bound.s n k0 x.1 x.2) (funext fun n6' => funext fun v16' => funext fun v17' => funext fun v18' => cover_Bound.l0.eq n v16' v17' n n6' v18'))
theorem cover_Bound.sound (n : Nat) : SoundE prog 24 (cover_Bound.e n) :=
  soundE_of_run (C := cover_Bound.C n) (n := n) (cover_Bound.ok n) func24 (by kernel_rfl) (by kernel_rfl) (fun x r h => (cover_Bound.eq n x).trans h)

def law08_awake.rs : List RTy := [.data .bool]
def law08_awake.ps : List PTy := []
noncomputable def law08_awake.e (n : Nat) : Ent := ⟨law08_awake.ps, law08_awake.rs, fun x => law08_awake n⟩
noncomputable def law08_awake.C (n : Nat) : Ctx := { tab := tab, fts := fts, pts := pts, Γ := lookO [(22, cover_Look.e n), (24, cover_Bound.e n), (33, cover_Meets.e n), (69, cube_All.e n)], Γc := lookO [], Γs := lookO [], Γm := lookO [], Γo := lookO [], ntmps := f21.ntmps, keep := Vi.look ([], []) [], pins := [] }
theorem law08_awake.ok (n : Nat) : CtxOk prog (law08_awake.C n) := ⟨types, ftsOk_, ptsOk_, (fns_cons (cover_Look.sound n) (fns_cons (cover_Bound.sound n) (fns_cons (cover_Meets.sound n) (fns_cons (cube_All.sound n) fns_nil)))), cls_nil, sqs_nil, ems_nil, mixed, ons_nil⟩
theorem law08_awake.eq (n : Nat) (x : pdens law08_awake.ps) : Vi.run (law08_awake.C n) n f21 law08_awake.ps law08_awake.rs x = law08_awake n := by kernel_rfl
theorem law08_awake.sound (n : Nat) : SoundE prog 21 (law08_awake.e n) :=
  soundE_of_run (C := law08_awake.C n) (n := n) (law08_awake.ok n) func21 (by kernel_rfl) (by kernel_rfl) (fun x r h => (law08_awake.eq n x).trans h)

def ref02_Less.rs : List RTy := [.data TWide]
def ref02_Less.ps : List PTy := [.data TWide, .data TWide]
noncomputable def ref02_Less.e (n : Nat) : Ent := ⟨ref02_Less.ps, ref02_Less.rs, fun x => some (ref02_Less x.1 x.2)⟩
noncomputable def ref02_Less.C (n : Nat) : Ctx := { tab := tab, fts := fts, pts := pts, Γ := lookO [], Γc := lookO [], Γs := lookO [], Γm := lookO [], Γo := lookO [], ntmps := f174.ntmps, keep := Vi.look ([], []) [], pins := [] }
theorem ref02_Less.ok (n : Nat) : CtxOk prog (ref02_Less.C n) := ⟨types, ftsOk_, ptsOk_, fns_nil, cls_nil, sqs_nil, ems_nil, mixed, ons_nil⟩
theorem ref02_Less.eq (n : Nat) (x : pdens ref02_Less.ps) : Vi.run (ref02_Less.C n) n f174 ref02_Less.ps ref02_Less.rs x = some (ref02_Less x.1 x.2) := by kernel_rfl
theorem ref02_Less.sound (n : Nat) : SoundE prog 174 (ref02_Less.e n) :=
  soundE_of_run (C := ref02_Less.C n) (n := n) (ref02_Less.ok n) func174 (by kernel_rfl) (by kernel_rfl) (fun x r h => (ref02_Less.eq n x).trans h)

def ref05_Within.rs : List RTy := [.data .bool]
def ref05_Within.ps : List PTy := [.data TTern, .data TTern]
noncomputable def ref05_Within.e (n : Nat) : Ent := ⟨ref05_Within.ps, ref05_Within.rs, fun x => some (ref05_Within x.1 x.2)⟩
noncomputable def ref05_Within.C (n : Nat) : Ctx := { tab := tab, fts := fts, pts := pts, Γ := lookO [(159, ref02_And.e n), (160, ref02_Zero.e n), (161, ref02_Xor.e n), (174, ref02_Less.e n)], Γc := lookO [], Γs := lookO [], Γm := lookO [], Γo := lookO [], ntmps := f154.ntmps, keep := Vi.look ([], []) [], pins := [] }
theorem ref05_Within.ok (n : Nat) : CtxOk prog (ref05_Within.C n) := ⟨types, ftsOk_, ptsOk_, (fns_cons (ref02_And.sound n) (fns_cons (ref02_Zero.sound n) (fns_cons (ref02_Xor.sound n) (fns_cons (ref02_Less.sound n) fns_nil)))), cls_nil, sqs_nil, ems_nil, mixed, ons_nil⟩
theorem ref05_Within.run0 (n : Nat) (x : pdens ref05_Within.ps) : Vi.run (ref05_Within.C n) n f154 ref05_Within.ps ref05_Within.rs x = ref05_Within.o x.1 x.2 := by kernel_rfl
theorem ref05_Within.eq (n : Nat) (x : pdens ref05_Within.ps) : Vi.run (ref05_Within.C n) n f154 ref05_Within.ps ref05_Within.rs x = some (ref05_Within x.1 x.2) := (ref05_Within.run0 n x).trans (ref05_Within.o_eq _ _)
theorem ref05_Within.sound (n : Nat) : SoundE prog 154 (ref05_Within.e n) :=
  soundE_of_run (C := ref05_Within.C n) (n := n) (ref05_Within.ok n) func154 (by kernel_rfl) (by kernel_rfl) (fun x r h => (ref05_Within.eq n x).trans h)

def ref06_Within.rs : List RTy := [.data .bool]
def ref06_Within.ps : List PTy := [.data TCube, .data TCube]
noncomputable def ref06_Within.e (n : Nat) : Ent := ⟨ref06_Within.ps, ref06_Within.rs, fun x => ref06_Within n x.1 x.2⟩
noncomputable def ref06_Within.C (n : Nat) : Ctx := { tab := tab, fts := fts, pts := pts, Γ := lookO [(154, ref05_Within.e n)], Γc := lookO [], Γs := lookO [], Γm := lookO [], Γo := lookO [], ntmps := f120.ntmps, keep := Vi.look ([], []) [(2, ([2, 3, 5], [2, 3]))], pins := [] }
theorem ref06_Within.ok (n : Nat) : CtxOk prog (ref06_Within.C n) := ⟨types, ftsOk_, ptsOk_, (fns_cons (ref05_Within.sound n) fns_nil), cls_nil, sqs_nil, ems_nil, mixed, ons_nil⟩
noncomputable def ref06_Within.code : Code := bodyOf f120
theorem ref06_Within.l0.step (n : Nat) (m0 : Nat) (f : Int) (a_1 : Cube) (b_1 : Cube) : it (EmR.no _) (ref06_Within.C n) n (Code.go ref06_Within.code [1, 0, 1, 0, 0]) (blockK 0 (seqK (EmR.no _) (ref06_Within.C n) n (Code.go ref06_Within.code [1, 1]) (bodyK (ref06_Within.C n) f120 ref06_Within.rs))) (m0 + 1) ⟨[(2, .ptr 2 0 TCube []), (3, .ptr 3 0 TCube []), (5, .dat (.int .i64) f)], [(2, .box 0 false (.dat TCube a_1)), (3, .box 0 false (.dat TCube b_1))]⟩ = ref06_Within.s0 n (fun (f' : Int) => it (EmR.no _) (ref06_Within.C n) n (Code.go ref06_Within.code [1, 0, 1, 0, 0]) (blockK 0 (seqK (EmR.no _) (ref06_Within.C n) n (Code.go ref06_Within.code [1, 1]) (bodyK (ref06_Within.C n) f120 ref06_Within.rs))) m0 ⟨[(2, .ptr 2 0 TCube []), (3, .ptr 3 0 TCube []), (5, .dat (.int .i64) (f'))], [(2, .box 0 false (.dat TCube a_1)), (3, .box 0 false (.dat TCube b_1))]⟩) f a_1 b_1 := by kernel_rfl
theorem ref06_Within.l0.eq (n : Nat) (a_1 : Cube) (b_1 : Cube) : ∀ (m0 : Nat) (f : Int), it (EmR.no _) (ref06_Within.C n) n (Code.go ref06_Within.code [1, 0, 1, 0, 0]) (blockK 0 (seqK (EmR.no _) (ref06_Within.C n) n (Code.go ref06_Within.code [1, 1]) (bodyK (ref06_Within.C n) f120 ref06_Within.rs))) m0 ⟨[(2, .ptr 2 0 TCube []), (3, .ptr 3 0 TCube []), (5, .dat (.int .i64) f)], [(2, .box 0 false (.dat TCube a_1)), (3, .box 0 false (.dat TCube b_1))]⟩ = ref06_Within.l0 n a_1 b_1 m0 f
  | 0, _ => rfl
  | m0 + 1, f =>
    (ref06_Within.l0.step n m0 f a_1 b_1).trans (congr1 (fun k0 => ref06_Within.s0 n k0 f a_1 b_1) (funext fun f' => ref06_Within.l0.eq n a_1 b_1 m0 f'))
theorem ref06_Within.run0 (n : Nat) (x : pdens ref06_Within.ps) : Vi.run (ref06_Within.C n) n f120 ref06_Within.ps ref06_Within.rs x = ref06_Within.s n (fun (f' : Int) (a_1' : Cube) (b_1' : Cube) => it (EmR.no _) (ref06_Within.C n) n (Code.go ref06_Within.code [1, 0, 1, 0, 0]) (blockK 0 (seqK (EmR.no _) (ref06_Within.C n) n (Code.go ref06_Within.code [1, 1]) (bodyK (ref06_Within.C n) f120 ref06_Within.rs))) n ⟨[(2, .ptr 2 0 TCube []), (3, .ptr 3 0 TCube []), (5, .dat (.int .i64) (f'))], [(2, .box 0 false (.dat TCube (a_1'))), (3, .box 0 false (.dat TCube (b_1')))]⟩) x.1 x.2 := by kernel_rfl
theorem ref06_Within.eq (n : Nat) (x : pdens ref06_Within.ps) : Vi.run (ref06_Within.C n) n f120 ref06_Within.ps ref06_Within.rs x = ref06_Within n x.1 x.2 :=
  (ref06_Within.run0 n x).trans (congr1 (fun k0 => ref06_Within.s n k0 x.1 x.2) (funext fun f' => funext fun a_1' => funext fun b_1' => ref06_Within.l0.eq n a_1' b_1' n f'))
theorem ref06_Within.sound (n : Nat) : SoundE prog 120 (ref06_Within.e n) :=
  soundE_of_run (C := ref06_Within.C n) (n := n) (ref06_Within.ok n) func120 (by kernel_rfl) (by kernel_rfl) (fun x r h => (ref06_Within.eq n x).trans h)

def ref06_Pick.rs : List RTy := [.data THeader]
def ref06_Pick.ps : List PTy := [.data TCube]
noncomputable def ref06_Pick.e (n : Nat) : Ent := ⟨ref06_Pick.ps, ref06_Pick.rs, fun x => ref06_Pick n x⟩
noncomputable def ref06_Pick.C (n : Nat) : Ctx := { tab := tab, fts := fts, pts := pts, Γ := lookO [(127, ref05_Clean.e n)], Γc := lookO [], Γs := lookO [], Γm := lookO [], Γo := lookO [], ntmps := f121.ntmps, keep := Vi.look ([], []) [(3, ([1, 2, 3, 4], [1, 2, 3]))], pins := [] }
theorem ref06_Pick.ok (n : Nat) : CtxOk prog (ref06_Pick.C n) := ⟨types, ftsOk_, ptsOk_, (fns_cons (ref05_Clean.sound n) fns_nil), cls_nil, sqs_nil, ems_nil, mixed, ons_nil⟩
noncomputable def ref06_Pick.code : Code := bodyOf f121
theorem ref06_Pick.l0.step (n : Nat) (m0 : Nat) (f : Int) (c_1 : Cube) (v2 : Header) (h : Header) : it (EmR.no _) (ref06_Pick.C n) n (Code.go ref06_Pick.code [1, 1, 0, 1, 0, 0]) (blockK 0 (seqK (EmR.no _) (ref06_Pick.C n) n (Code.go ref06_Pick.code [1, 1, 1]) (bodyK (ref06_Pick.C n) f121 ref06_Pick.rs))) (m0 + 1) ⟨[(1, .ptr 1 0 TCube []), (2, .ptr 2 0 THeader []), (3, .ptr 3 0 THeader []), (4, .dat (.int .i64) f)], [(1, .box 0 false (.dat TCube c_1)), (2, .box 0 false (.dat THeader v2)), (3, .box 0 false (.dat THeader h))]⟩ = ref06_Pick.s0 n (fun (f' : Int) (h' : Header) => it (EmR.no _) (ref06_Pick.C n) n (Code.go ref06_Pick.code [1, 1, 0, 1, 0, 0]) (blockK 0 (seqK (EmR.no _) (ref06_Pick.C n) n (Code.go ref06_Pick.code [1, 1, 1]) (bodyK (ref06_Pick.C n) f121 ref06_Pick.rs))) m0 ⟨[(1, .ptr 1 0 TCube []), (2, .ptr 2 0 THeader []), (3, .ptr 3 0 THeader []), (4, .dat (.int .i64) (f'))], [(1, .box 0 false (.dat TCube c_1)), (2, .box 0 false (.dat THeader v2)), (3, .box 0 false (.dat THeader (h')))]⟩) f c_1 v2 h := by kernel_rfl
theorem ref06_Pick.l0.eq (n : Nat) (c_1 : Cube) (v2 : Header) : ∀ (m0 : Nat) (f : Int) (h : Header), it (EmR.no _) (ref06_Pick.C n) n (Code.go ref06_Pick.code [1, 1, 0, 1, 0, 0]) (blockK 0 (seqK (EmR.no _) (ref06_Pick.C n) n (Code.go ref06_Pick.code [1, 1, 1]) (bodyK (ref06_Pick.C n) f121 ref06_Pick.rs))) m0 ⟨[(1, .ptr 1 0 TCube []), (2, .ptr 2 0 THeader []), (3, .ptr 3 0 THeader []), (4, .dat (.int .i64) f)], [(1, .box 0 false (.dat TCube c_1)), (2, .box 0 false (.dat THeader v2)), (3, .box 0 false (.dat THeader h))]⟩ = ref06_Pick.l0 n c_1 v2 m0 f h
  | 0, _, _ => rfl
  | m0 + 1, f, h =>
    (ref06_Pick.l0.step n m0 f c_1 v2 h).trans (congr1 (fun k0 => ref06_Pick.s0 n k0 f c_1 v2 h) (funext fun f' => funext fun h' => ref06_Pick.l0.eq n c_1 v2 m0 f' h'))
theorem ref06_Pick.run0 (n : Nat) (x : pdens ref06_Pick.ps) : Vi.run (ref06_Pick.C n) n f121 ref06_Pick.ps ref06_Pick.rs x = ref06_Pick.s n (fun (f' : Int) (c_1' : Cube) (v2' : Header) (h' : Header) => it (EmR.no _) (ref06_Pick.C n) n (Code.go ref06_Pick.code [1, 1, 0, 1, 0, 0]) (blockK 0 (seqK (EmR.no _) (ref06_Pick.C n) n (Code.go ref06_Pick.code [1, 1, 1]) (bodyK (ref06_Pick.C n) f121 ref06_Pick.rs))) n ⟨[(1, .ptr 1 0 TCube []), (2, .ptr 2 0 THeader []), (3, .ptr 3 0 THeader []), (4, .dat (.int .i64) (f'))], [(1, .box 0 false (.dat TCube (c_1'))), (2, .box 0 false (.dat THeader (v2'))), (3, .box 0 false (.dat THeader (h')))]⟩) x := by kernel_rfl
theorem ref06_Pick.eq (n : Nat) (x : pdens ref06_Pick.ps) : Vi.run (ref06_Pick.C n) n f121 ref06_Pick.ps ref06_Pick.rs x = ref06_Pick n x :=
  (ref06_Pick.run0 n x).trans (congr1 (fun k0 => ref06_Pick.s n k0 x) (funext fun f' => funext fun c_1' => funext fun v2' => funext fun h' => ref06_Pick.l0.eq n c_1' v2' n f' h'))
theorem ref06_Pick.sound (n : Nat) : SoundE prog 121 (ref06_Pick.e n) :=
  soundE_of_run (C := ref06_Pick.C n) (n := n) (ref06_Pick.ok n) func121 (by kernel_rfl) (by kernel_rfl) (fun x r h => (ref06_Pick.eq n x).trans h)

def ref06_Clean.rs : List RTy := [.data TCube]
def ref06_Clean.ps : List PTy := [.data TCube]
noncomputable def ref06_Clean.e (n : Nat) : Ent := ⟨ref06_Clean.ps, ref06_Clean.rs, fun x => ref06_Clean n x⟩
noncomputable def ref06_Clean.C (n : Nat) : Ctx := { tab := tab, fts := fts, pts := pts, Γ := lookO [(127, ref05_Clean.e n)], Γc := lookO [], Γs := lookO [], Γm := lookO [], Γo := lookO [], ntmps := f76.ntmps, keep := Vi.look ([], []) [(2, ([1, 2, 3], [1, 2]))], pins := [] }
theorem ref06_Clean.ok (n : Nat) : CtxOk prog (ref06_Clean.C n) := ⟨types, ftsOk_, ptsOk_, (fns_cons (ref05_Clean.sound n) fns_nil), cls_nil, sqs_nil, ems_nil, mixed, ons_nil⟩
noncomputable def ref06_Clean.code : Code := bodyOf f76
theorem ref06_Clean.l0.step (n : Nat) (m0 : Nat) (f : Int) (c_1 : Cube) (v2 : Cube) : it (EmR.no _) (ref06_Clean.C n) n (Code.go ref06_Clean.code [1, 0, 1, 0, 0]) (blockK 0 (seqK (EmR.no _) (ref06_Clean.C n) n (Code.go ref06_Clean.code [1, 1]) (bodyK (ref06_Clean.C n) f76 ref06_Clean.rs))) (m0 + 1) ⟨[(1, .ptr 1 0 TCube []), (2, .ptr 2 0 TCube []), (3, .dat (.int .i64) f)], [(1, .box 0 false (.dat TCube c_1)), (2, .box 0 false (.dat TCube v2))]⟩ = ref06_Clean.s0 n (fun (f' : Int) (c_1' : Cube) => it (EmR.no _) (ref06_Clean.C n) n (Code.go ref06_Clean.code [1, 0, 1, 0, 0]) (blockK 0 (seqK (EmR.no _) (ref06_Clean.C n) n (Code.go ref06_Clean.code [1, 1]) (bodyK (ref06_Clean.C n) f76 ref06_Clean.rs))) m0 ⟨[(1, .ptr 1 0 TCube []), (2, .ptr 2 0 TCube []), (3, .dat (.int .i64) (f'))], [(1, .box 0 false (.dat TCube (c_1'))), (2, .box 0 false (.dat TCube v2))]⟩) f c_1 v2 := by kernel_rfl
theorem ref06_Clean.l0.eq (n : Nat) (v2 : Cube) : ∀ (m0 : Nat) (f : Int) (c_1 : Cube), it (EmR.no _) (ref06_Clean.C n) n (Code.go ref06_Clean.code [1, 0, 1, 0, 0]) (blockK 0 (seqK (EmR.no _) (ref06_Clean.C n) n (Code.go ref06_Clean.code [1, 1]) (bodyK (ref06_Clean.C n) f76 ref06_Clean.rs))) m0 ⟨[(1, .ptr 1 0 TCube []), (2, .ptr 2 0 TCube []), (3, .dat (.int .i64) f)], [(1, .box 0 false (.dat TCube c_1)), (2, .box 0 false (.dat TCube v2))]⟩ = ref06_Clean.l0 n v2 m0 f c_1
  | 0, _, _ => rfl
  | m0 + 1, f, c_1 =>
    (ref06_Clean.l0.step n m0 f c_1 v2).trans (congr1 (fun k0 => ref06_Clean.s0 n k0 f c_1 v2) (funext fun f' => funext fun c_1' => ref06_Clean.l0.eq n v2 m0 f' c_1'))
theorem ref06_Clean.run0 (n : Nat) (x : pdens ref06_Clean.ps) : Vi.run (ref06_Clean.C n) n f76 ref06_Clean.ps ref06_Clean.rs x = ref06_Clean.s n (fun (f' : Int) (c_1' : Cube) (v2' : Cube) => it (EmR.no _) (ref06_Clean.C n) n (Code.go ref06_Clean.code [1, 0, 1, 0, 0]) (blockK 0 (seqK (EmR.no _) (ref06_Clean.C n) n (Code.go ref06_Clean.code [1, 1]) (bodyK (ref06_Clean.C n) f76 ref06_Clean.rs))) n ⟨[(1, .ptr 1 0 TCube []), (2, .ptr 2 0 TCube []), (3, .dat (.int .i64) (f'))], [(1, .box 0 false (.dat TCube (c_1'))), (2, .box 0 false (.dat TCube (v2')))]⟩) x := by kernel_rfl
theorem ref06_Clean.eq (n : Nat) (x : pdens ref06_Clean.ps) : Vi.run (ref06_Clean.C n) n f76 ref06_Clean.ps ref06_Clean.rs x = ref06_Clean n x :=
  (ref06_Clean.run0 n x).trans (congr1 (fun k0 => ref06_Clean.s n k0 x) (funext fun f' => funext fun c_1' => funext fun v2' => ref06_Clean.l0.eq n v2' n f' c_1'))
theorem ref06_Clean.sound (n : Nat) : SoundE prog 76 (ref06_Clean.e n) :=
  soundE_of_run (C := ref06_Clean.C n) (n := n) (ref06_Clean.ok n) func76 (by kernel_rfl) (by kernel_rfl) (fun x r h => (ref06_Clean.eq n x).trans h)

def ref05_Bits.rs : List RTy := [.fresh (.int .i64)]
def ref05_Bits.ps : List PTy := [.data TTern, .data TTern]
noncomputable def ref05_Bits.e (n : Nat) : Ent := ⟨ref05_Bits.ps, ref05_Bits.rs, fun x => ref05_Bits n x.1 x.2⟩
noncomputable def ref05_Bits.C (n : Nat) : Ctx := { tab := tab, fts := fts, pts := pts, Γ := lookO [(156, ref02_Has.e n)], Γc := lookO [], Γs := lookO [], Γm := lookO [], Γo := lookO [], ntmps := f155.ntmps, keep := Vi.look ([], []) [(3, ([2, 3, 5, 6], [2, 3]))], pins := [] }
theorem ref05_Bits.ok (n : Nat) : CtxOk prog (ref05_Bits.C n) := ⟨types, ftsOk_, ptsOk_, (fns_cons (ref02_Has.sound n) fns_nil), cls_nil, sqs_nil, ems_nil, mixed, ons_nil⟩
noncomputable def ref05_Bits.code : Code := bodyOf f155
theorem ref05_Bits.l0.step (n : Nat) (m0 : Nat) (out : (List Int)) (i : Int) (a_1 : Tern) (b_1 : Tern) : it (EmR.no _) (ref05_Bits.C n) n (Code.go ref05_Bits.code [1, 1, 0, 1, 0, 0]) (blockK 0 (seqK (EmR.no _) (ref05_Bits.C n) n (Code.go ref05_Bits.code [1, 1, 1]) (bodyK (ref05_Bits.C n) f155 ref05_Bits.rs))) (m0 + 1) ⟨[(2, .ptr 2 0 TTern []), (3, .ptr 3 0 TTern []), (5, .lst (.tip 100005 0) (.int .i64) out), (6, .dat (.int .i64) i)], [(100005, .tok 0), (2, .box 0 false (.dat TTern a_1)), (3, .box 0 false (.dat TTern b_1))]⟩ = ref05_Bits.s0 n (fun (out' : (List Int)) (i' : Int) => it (EmR.no _) (ref05_Bits.C n) n (Code.go ref05_Bits.code [1, 1, 0, 1, 0, 0]) (blockK 0 (seqK (EmR.no _) (ref05_Bits.C n) n (Code.go ref05_Bits.code [1, 1, 1]) (bodyK (ref05_Bits.C n) f155 ref05_Bits.rs))) m0 ⟨[(2, .ptr 2 0 TTern []), (3, .ptr 3 0 TTern []), (5, .lst (.tip 100005 0) (.int .i64) (out')), (6, .dat (.int .i64) (i'))], [(100005, .tok 0), (2, .box 0 false (.dat TTern a_1)), (3, .box 0 false (.dat TTern b_1))]⟩) out i a_1 b_1 := by kernel_rfl
theorem ref05_Bits.l0.eq (n : Nat) (a_1 : Tern) (b_1 : Tern) : ∀ (m0 : Nat) (out : (List Int)) (i : Int), it (EmR.no _) (ref05_Bits.C n) n (Code.go ref05_Bits.code [1, 1, 0, 1, 0, 0]) (blockK 0 (seqK (EmR.no _) (ref05_Bits.C n) n (Code.go ref05_Bits.code [1, 1, 1]) (bodyK (ref05_Bits.C n) f155 ref05_Bits.rs))) m0 ⟨[(2, .ptr 2 0 TTern []), (3, .ptr 3 0 TTern []), (5, .lst (.tip 100005 0) (.int .i64) out), (6, .dat (.int .i64) i)], [(100005, .tok 0), (2, .box 0 false (.dat TTern a_1)), (3, .box 0 false (.dat TTern b_1))]⟩ = ref05_Bits.l0 n a_1 b_1 m0 out i
  | 0, _, _ => rfl
  | m0 + 1, out, i =>
    (ref05_Bits.l0.step n m0 out i a_1 b_1).trans (congr1 (fun k0 => ref05_Bits.s0 n k0 out i a_1 b_1) (funext fun out' => funext fun i' => ref05_Bits.l0.eq n a_1 b_1 m0 out' i'))
theorem ref05_Bits.run0 (n : Nat) (x : pdens ref05_Bits.ps) : Vi.run (ref05_Bits.C n) n f155 ref05_Bits.ps ref05_Bits.rs x = ref05_Bits.s n (fun (out' : (List Int)) (i' : Int) (a_1' : Tern) (b_1' : Tern) => it (EmR.no _) (ref05_Bits.C n) n (Code.go ref05_Bits.code [1, 1, 0, 1, 0, 0]) (blockK 0 (seqK (EmR.no _) (ref05_Bits.C n) n (Code.go ref05_Bits.code [1, 1, 1]) (bodyK (ref05_Bits.C n) f155 ref05_Bits.rs))) n ⟨[(2, .ptr 2 0 TTern []), (3, .ptr 3 0 TTern []), (5, .lst (.tip 100005 0) (.int .i64) (out')), (6, .dat (.int .i64) (i'))], [(100005, .tok 0), (2, .box 0 false (.dat TTern (a_1'))), (3, .box 0 false (.dat TTern (b_1')))]⟩) x.1 x.2 := by kernel_rfl
theorem ref05_Bits.eq (n : Nat) (x : pdens ref05_Bits.ps) : Vi.run (ref05_Bits.C n) n f155 ref05_Bits.ps ref05_Bits.rs x = ref05_Bits n x.1 x.2 :=
  (ref05_Bits.run0 n x).trans (congr1 (fun k0 => ref05_Bits.s n k0 x.1 x.2) (funext fun out' => funext fun i' => funext fun a_1' => funext fun b_1' => ref05_Bits.l0.eq n a_1' b_1' n out' i'))
theorem ref05_Bits.sound (n : Nat) : SoundE prog 155 (ref05_Bits.e n) :=
  soundE_of_run (C := ref05_Bits.C n) (n := n) (ref05_Bits.ok n) func155 (by kernel_rfl) (by kernel_rfl) (fun x r h => (ref05_Bits.eq n x).trans h)

def ref05_Fix.rs : List RTy := [.data TTern]
def ref05_Fix.ps : List PTy := [.data TTern, .data (.int .i64), .data .bool]
noncomputable def ref05_Fix.e (n : Nat) : Ent := ⟨ref05_Fix.ps, ref05_Fix.rs, fun x => ref05_Fix x.1 x.2.1 x.2.2⟩
noncomputable def ref05_Fix.C (n : Nat) : Ctx := { tab := tab, fts := fts, pts := pts, Γ := lookO [(127, ref05_Clean.e n), (163, ref02_Or.e n), (174, ref02_Less.e n), (175, ref02_Bit.e n)], Γc := lookO [], Γs := lookO [], Γm := lookO [], Γo := lookO [], ntmps := f157.ntmps, keep := Vi.look ([], []) [], pins := [] }
theorem ref05_Fix.ok (n : Nat) : CtxOk prog (ref05_Fix.C n) := ⟨types, ftsOk_, ptsOk_, (fns_cons (ref05_Clean.sound n) (fns_cons (ref02_Or.sound n) (fns_cons (ref02_Less.sound n) (fns_cons (ref02_Bit.sound n) fns_nil)))), cls_nil, sqs_nil, ems_nil, mixed, ons_nil⟩
theorem ref05_Fix.eq (n : Nat) (x : pdens ref05_Fix.ps) : Vi.run (ref05_Fix.C n) n f157 ref05_Fix.ps ref05_Fix.rs x = ref05_Fix x.1 x.2.1 x.2.2 := by kernel_rfl
theorem ref05_Fix.sound (n : Nat) : SoundE prog 157 (ref05_Fix.e n) :=
  soundE_of_run (C := ref05_Fix.C n) (n := n) (ref05_Fix.ok n) func157 (by kernel_rfl) (by kernel_rfl) (fun x r h => (ref05_Fix.eq n x).trans h)

def ref07_List.rs : List RTy := [.fresh TCube]
def ref07_List.ps : List PTy := [.data TCube, .data TCube]
noncomputable def ref07_List.e (n : Nat) : Ent := ⟨ref07_List.ps, ref07_List.rs, fun x => ref07_List n x.1 x.2⟩
noncomputable def ref07_List.C (n : Nat) : Ctx := { tab := tab, fts := fts, pts := pts, Γ := lookO [(76, ref06_Clean.e n), (82, ref06_Meet.e n), (155, ref05_Bits.e n), (156, ref02_Has.e n), (157, ref05_Fix.e n)], Γc := lookO [], Γs := lookO [], Γm := lookO [], Γo := lookO [], ntmps := f122.ntmps, keep := Vi.look ([], []) [(7, ([2, 3, 5, 8, 9], [2, 3, 5])), (11, ([2, 3, 5, 8, 9, 10, 11], [2, 3, 5]))], pins := [] }
theorem ref07_List.ok (n : Nat) : CtxOk prog (ref07_List.C n) := ⟨types, ftsOk_, ptsOk_, (fns_cons (ref06_Clean.sound n) (fns_cons (ref06_Meet.sound n) (fns_cons (ref05_Bits.sound n) (fns_cons (ref02_Has.sound n) (fns_cons (ref05_Fix.sound n) fns_nil))))), cls_nil, sqs_nil, ems_nil, mixed, ons_nil⟩
noncomputable def ref07_List.code : Code := bodyOf f122
theorem ref07_List.l1.step (n : Nat) (m0 : Nat) (m1 : Nat) (out_1 : (List Cube)) (f_1 : Int) (l : (List Int)) (i : Int) (a_2 : Cube) (b_2 : Cube) (left_1 : Cube) : it (EmR.no _) (ref07_List.C n) n (Code.go ref07_List.code [1, 1, 1, 1, 0, 1, 0, 0, 1, 0, 0, 1, 1, 0, 0]) (blockK 2 (blockK 1 (seqK (EmR.no _) (ref07_List.C n) n (Code.go ref07_List.code [1, 1, 1, 1, 0, 1, 0, 0, 1, 1]) (loopK (EmR.no _) (ref07_List.C n) n (Code.go ref07_List.code [1, 1, 1, 1, 0, 1, 0, 0]) (blockK 0 (seqK (EmR.no _) (ref07_List.C n) n (Code.go ref07_List.code [1, 1, 1, 1, 1]) (bodyK (ref07_List.C n) f122 ref07_List.rs))) m0)))) (m1 + 1) ⟨[(2, .ptr 2 0 TCube []), (3, .ptr 3 0 TCube []), (5, .ptr 5 0 TCube []), (8, .lst (.tip 100008 0) TCube out_1), (9, .dat (.int .i64) f_1), (10, .lst (.tip 100010 0) (.int .i64) l), (11, .dat (.int .i64) i)], [(100008, .tok 0), (100010, .tok 0), (2, .box 0 false (.dat TCube a_2)), (3, .box 0 false (.dat TCube b_2)), (5, .box 0 false (.dat TCube left_1))]⟩ = ref07_List.s1 n (fun (out_1' : (List Cube)) (i' : Int) (left_1' : Cube) => it (EmR.no _) (ref07_List.C n) n (Code.go ref07_List.code [1, 1, 1, 1, 0, 1, 0, 0, 1, 0, 0, 1, 1, 0, 0]) (blockK 2 (blockK 1 (seqK (EmR.no _) (ref07_List.C n) n (Code.go ref07_List.code [1, 1, 1, 1, 0, 1, 0, 0, 1, 1]) (loopK (EmR.no _) (ref07_List.C n) n (Code.go ref07_List.code [1, 1, 1, 1, 0, 1, 0, 0]) (blockK 0 (seqK (EmR.no _) (ref07_List.C n) n (Code.go ref07_List.code [1, 1, 1, 1, 1]) (bodyK (ref07_List.C n) f122 ref07_List.rs))) m0)))) m1 ⟨[(2, .ptr 2 0 TCube []), (3, .ptr 3 0 TCube []), (5, .ptr 5 0 TCube []), (8, .lst (.tip 100008 0) TCube (out_1')), (9, .dat (.int .i64) f_1), (10, .lst (.tip 100010 0) (.int .i64) l), (11, .dat (.int .i64) (i'))], [(100008, .tok 0), (100010, .tok 0), (2, .box 0 false (.dat TCube a_2)), (3, .box 0 false (.dat TCube b_2)), (5, .box 0 false (.dat TCube (left_1')))]⟩) (fun (out' : (List Cube)) (f' : Int) (a_1' : Cube) (b_1' : Cube) (left' : Cube) => it (EmR.no _) (ref07_List.C n) n (Code.go ref07_List.code [1, 1, 1, 1, 0, 1, 0, 0]) (blockK 0 (seqK (EmR.no _) (ref07_List.C n) n (Code.go ref07_List.code [1, 1, 1, 1, 1]) (bodyK (ref07_List.C n) f122 ref07_List.rs))) m0 ⟨[(2, .ptr 2 0 TCube []), (3, .ptr 3 0 TCube []), (5, .ptr 5 0 TCube []), (8, .lst (.tip 100008 0) TCube (out')), (9, .dat (.int .i64) (f'))], [(100008, .tok 0), (2, .box 0 false (.dat TCube (a_1'))), (3, .box 0 false (.dat TCube (b_1'))), (5, .box 0 false (.dat TCube (left')))]⟩) out_1 f_1 l i a_2 b_2 left_1 := by kernel_rfl
theorem ref07_List.l1.eq (n : Nat) (m0 : Nat) (f_1 : Int) (l : (List Int)) (a_2 : Cube) (b_2 : Cube) : ∀ (m1 : Nat) (out_1 : (List Cube)) (i : Int) (left_1 : Cube), it (EmR.no _) (ref07_List.C n) n (Code.go ref07_List.code [1, 1, 1, 1, 0, 1, 0, 0, 1, 0, 0, 1, 1, 0, 0]) (blockK 2 (blockK 1 (seqK (EmR.no _) (ref07_List.C n) n (Code.go ref07_List.code [1, 1, 1, 1, 0, 1, 0, 0, 1, 1]) (loopK (EmR.no _) (ref07_List.C n) n (Code.go ref07_List.code [1, 1, 1, 1, 0, 1, 0, 0]) (blockK 0 (seqK (EmR.no _) (ref07_List.C n) n (Code.go ref07_List.code [1, 1, 1, 1, 1]) (bodyK (ref07_List.C n) f122 ref07_List.rs))) m0)))) m1 ⟨[(2, .ptr 2 0 TCube []), (3, .ptr 3 0 TCube []), (5, .ptr 5 0 TCube []), (8, .lst (.tip 100008 0) TCube out_1), (9, .dat (.int .i64) f_1), (10, .lst (.tip 100010 0) (.int .i64) l), (11, .dat (.int .i64) i)], [(100008, .tok 0), (100010, .tok 0), (2, .box 0 false (.dat TCube a_2)), (3, .box 0 false (.dat TCube b_2)), (5, .box 0 false (.dat TCube left_1))]⟩ = ref07_List.l1 n f_1 l a_2 b_2 (fun (out'' : (List Cube)) (f'' : Int) (a_1'' : Cube) (b_1'' : Cube) (left'' : Cube) => it (EmR.no _) (ref07_List.C n) n (Code.go ref07_List.code [1, 1, 1, 1, 0, 1, 0, 0]) (blockK 0 (seqK (EmR.no _) (ref07_List.C n) n (Code.go ref07_List.code [1, 1, 1, 1, 1]) (bodyK (ref07_List.C n) f122 ref07_List.rs))) m0 ⟨[(2, .ptr 2 0 TCube []), (3, .ptr 3 0 TCube []), (5, .ptr 5 0 TCube []), (8, .lst (.tip 100008 0) TCube (out'')), (9, .dat (.int .i64) (f''))], [(100008, .tok 0), (2, .box 0 false (.dat TCube (a_1''))), (3, .box 0 false (.dat TCube (b_1''))), (5, .box 0 false (.dat TCube (left'')))]⟩) m1 out_1 i left_1
  | 0, _, _, _ => rfl
  | m1 + 1, out_1, i, left_1 =>
    (ref07_List.l1.step n m0 m1 out_1 f_1 l i a_2 b_2 left_1).trans (congr2 (fun k1 k0 => ref07_List.s1 n k1 k0 out_1 f_1 l i a_2 b_2 left_1) (funext fun out_1' => funext fun i' => funext fun left_1' => ref07_List.l1.eq n m0 f_1 l a_2 b_2 m1 out_1' i' left_1') rfl)
theorem ref07_List.l0.step (n : Nat) (m0 : Nat) (out : (List Cube)) (f : Int) (a_1 : Cube) (b_1 : Cube) (left : Cube) : it (EmR.no _) (ref07_List.C n) n (Code.go ref07_List.code [1, 1, 1, 1, 0, 1, 0, 0]) (blockK 0 (seqK (EmR.no _) (ref07_List.C n) n (Code.go ref07_List.code [1, 1, 1, 1, 1]) (bodyK (ref07_List.C n) f122 ref07_List.rs))) (m0 + 1) ⟨[(2, .ptr 2 0 TCube []), (3, .ptr 3 0 TCube []), (5, .ptr 5 0 TCube []), (8, .lst (.tip 100008 0) TCube out), (9, .dat (.int .i64) f)], [(100008, .tok 0), (2, .box 0 false (.dat TCube a_1)), (3, .box 0 false (.dat TCube b_1)), (5, .box 0 false (.dat TCube left))]⟩ = ref07_List.s0 n (fun (out_1' : (List Cube)) (f_1' : Int) (l' : (List Int)) (i' : Int) (a_2' : Cube) (b_2' : Cube) (left_1' : Cube) => it (EmR.no _) (ref07_List.C n) n (Code.go ref07_List.code [1, 1, 1, 1, 0, 1, 0, 0, 1, 0, 0, 1, 1, 0, 0]) (blockK 2 (blockK 1 (seqK (EmR.no _) (ref07_List.C n) n (Code.go ref07_List.code [1, 1, 1, 1, 0, 1, 0, 0, 1, 1]) (loopK (EmR.no _) (ref07_List.C n) n (Code.go ref07_List.code [1, 1, 1, 1, 0, 1, 0, 0]) (blockK 0 (seqK (EmR.no _) (ref07_List.C n) n (Code.go ref07_List.code [1, 1, 1, 1, 1]) (bodyK (ref07_List.C n) f122 ref07_List.rs))) m0)))) n ⟨[(2, .ptr 2 0 TCube []), (3, .ptr 3 0 TCube []), (5, .ptr 5 0 TCube []), (8, .lst (.tip 100008 0) TCube (out_1')), (9, .dat (.int .i64) (f_1')), (10, .lst (.tip 100010 0) (.int .i64) (l')), (11, .dat (.int .i64) (i'))], [(100008, .tok 0), (100010, .tok 0), (2, .box 0 false (.dat TCube (a_2'))), (3, .box 0 false (.dat TCube (b_2'))), (5, .box 0 false (.dat TCube (left_1')))]⟩) out f a_1 b_1 left := by kernel_rfl
theorem ref07_List.l0.eq (n : Nat) (a_1 : Cube) (b_1 : Cube) : ∀ (m0 : Nat) (out : (List Cube)) (f : Int) (left : Cube), it (EmR.no _) (ref07_List.C n) n (Code.go ref07_List.code [1, 1, 1, 1, 0, 1, 0, 0]) (blockK 0 (seqK (EmR.no _) (ref07_List.C n) n (Code.go ref07_List.code [1, 1, 1, 1, 1]) (bodyK (ref07_List.C n) f122 ref07_List.rs))) m0 ⟨[(2, .ptr 2 0 TCube []), (3, .ptr 3 0 TCube []), (5, .ptr 5 0 TCube []), (8, .lst (.tip 100008 0) TCube out), (9, .dat (.int .i64) f)], [(100008, .tok 0), (2, .box 0 false (.dat TCube a_1)), (3, .box 0 false (.dat TCube b_1)), (5, .box 0 false (.dat TCube left))]⟩ = ref07_List.l0 n a_1 b_1 m0 out f left
  | 0, _, _, _ => rfl
  | m0 + 1, out, f, left =>
    (ref07_List.l0.step n m0 out f a_1 b_1 left).trans (congr1 (fun k1 => ref07_List.s0 n k1 out f a_1 b_1 left) (funext fun out_1' => funext fun f_1' => funext fun l' => funext fun i' => funext fun a_2' => funext fun b_2' => funext fun left_1' => (ref07_List.l1.eq n m0 f_1' l' a_2' b_2' n out_1' i' left_1').trans (congr1 (fun kk => ref07_List.l1 n f_1' l' a_2' b_2' kk n out_1' i' left_1') (funext fun out'' => funext fun f'' => funext fun a_1'' => funext fun b_1'' => funext fun left'' => ref07_List.l0.eq n a_1'' b_1'' m0 out'' f'' left''))))
theorem ref07_List.run0 (n : Nat) (x : pdens ref07_List.ps) : Vi.run (ref07_List.C n) n f122 ref07_List.ps ref07_List.rs x = ref07_List.s n (fun (out' : (List Cube)) (f' : Int) (a_1' : Cube) (b_1' : Cube) (left' : Cube) => it (EmR.no _) (ref07_List.C n) n (Code.go ref07_List.code [1, 1, 1, 1, 0, 1, 0, 0]) (blockK 0 (seqK (EmR.no _) (ref07_List.C n) n (Code.go ref07_List.code [1, 1, 1, 1, 1]) (bodyK (ref07_List.C n) f122 ref07_List.rs))) n ⟨[(2, .ptr 2 0 TCube []), (3, .ptr 3 0 TCube []), (5, .ptr 5 0 TCube []), (8, .lst (.tip 100008 0) TCube (out')), (9, .dat (.int .i64) (f'))], [(100008, .tok 0), (2, .box 0 false (.dat TCube (a_1'))), (3, .box 0 false (.dat TCube (b_1'))), (5, .box 0 false (.dat TCube (left')))]⟩) x.1 x.2 := by kernel_rfl
theorem ref07_List.eq (n : Nat) (x : pdens ref07_List.ps) : Vi.run (ref07_List.C n) n f122 ref07_List.ps ref07_List.rs x = ref07_List n x.1 x.2 :=
  (ref07_List.run0 n x).trans (congr1 (fun k0 => ref07_List.s n k0 x.1 x.2) (funext fun out' => funext fun f' => funext fun a_1' => funext fun b_1' => funext fun left' => ref07_List.l0.eq n a_1' b_1' n out' f' left'))
theorem ref07_List.sound (n : Nat) : SoundE prog 122 (ref07_List.e n) :=
  soundE_of_run (C := ref07_List.C n) (n := n) (ref07_List.ok n) func122 (by kernel_rfl) (by kernel_rfl) (fun x r h => (ref07_List.eq n x).trans h)

def ref08_look.rs : List RTy := [.data THeader, .data .bool, .data (.int .i64)]
def ref08_look.ps : List PTy := [.data TCube, .data (.slc TCube), .data (.int .i64), .data .bool]
noncomputable def ref08_look.e (n k : Nat) : Ent := ⟨ref08_look.ps, ref08_look.rs, fun x => ref08_look n k x.1 x.2.1 x.2.2.1 x.2.2.2⟩
noncomputable def ref08_look.C (n k : Nat) : Ctx := { tab := tab, fts := fts, pts := pts, Γ := lookO [(71, ref08_look.e n k), (82, ref06_Meet.e n), (120, ref06_Within.e n), (121, ref06_Pick.e n), (122, ref07_List.e n)], Γc := lookO [], Γs := lookO [], Γm := lookO [], Γo := lookO [], ntmps := f71.ntmps, keep := Vi.look ([], []) [(7, ([1, 2, 3, 4, 8, 11, 12], [4, 8])), (18, ([1, 2, 3, 8, 11, 15, 16], [8]))], pins := [], cold := [4] }
theorem ref08_look.ok (n k : Nat) (hrec : SoundE prog 71 (ref08_look.e n k)) : CtxOk prog (ref08_look.C n k) := ⟨types, ftsOk_, ptsOk_, (fns_cons hrec (fns_cons (ref06_Meet.sound n) (fns_cons (ref06_Within.sound n) (fns_cons (ref06_Pick.sound n) (fns_cons (ref07_List.sound n) fns_nil))))), cls_nil, sqs_nil, ems_nil, mixed, ons_nil⟩
noncomputable def ref08_look.code : Code := bodyOf f71
theorem ref08_look.l1.step (n k : Nat) (m1 : Nat) (l_2 : (List Cube)) (left_2 : Int) (free_2 : Bool) (first_1 : Int) (parts : (List Cube)) (i_1 : Int) (v8_1 : Header) : it (EmR.no _) (ref08_look.C n k) n (Code.go ref08_look.code [1, 1, 1, 1, 1, 1, 1, 0, 1, 0, 0]) (blockK 2 (seqK (EmR.no _) (ref08_look.C n k) n (Code.go ref08_look.code [1, 1, 1, 1, 1, 1, 1, 1]) (bodyK (ref08_look.C n k) f71 ref08_look.rs))) (m1 + 1) ⟨[(1, .dat (.slc TCube) l_2), (2, .dat (.int .i64) left_2), (3, .dat .bool free_2), (8, .ptr 8 0 THeader []), (11, .dat (.int .i64) first_1), (15, .lst (.tip 100015 0) TCube parts), (16, .dat (.int .i64) i_1)], [(100015, .tok 0), (8, .box 0 false (.dat THeader v8_1))]⟩ = ref08_look.s1 n (ref08_look n k) (fun (left_2' : Int) (i_1' : Int) => it (EmR.no _) (ref08_look.C n k) n (Code.go ref08_look.code [1, 1, 1, 1, 1, 1, 1, 0, 1, 0, 0]) (blockK 2 (seqK (EmR.no _) (ref08_look.C n k) n (Code.go ref08_look.code [1, 1, 1, 1, 1, 1, 1, 1]) (bodyK (ref08_look.C n k) f71 ref08_look.rs))) m1 ⟨[(1, .dat (.slc TCube) l_2), (2, .dat (.int .i64) (left_2')), (3, .dat .bool free_2), (8, .ptr 8 0 THeader []), (11, .dat (.int .i64) first_1), (15, .lst (.tip 100015 0) TCube parts), (16, .dat (.int .i64) (i_1'))], [(100015, .tok 0), (8, .box 0 false (.dat THeader v8_1))]⟩) l_2 left_2 free_2 first_1 parts i_1 v8_1 := by kernel_rfl
theorem ref08_look.l1.eq (n k : Nat) (l_2 : (List Cube)) (free_2 : Bool) (first_1 : Int) (parts : (List Cube)) (v8_1 : Header) : ∀ (m1 : Nat) (left_2 : Int) (i_1 : Int), it (EmR.no _) (ref08_look.C n k) n (Code.go ref08_look.code [1, 1, 1, 1, 1, 1, 1, 0, 1, 0, 0]) (blockK 2 (seqK (EmR.no _) (ref08_look.C n k) n (Code.go ref08_look.code [1, 1, 1, 1, 1, 1, 1, 1]) (bodyK (ref08_look.C n k) f71 ref08_look.rs))) m1 ⟨[(1, .dat (.slc TCube) l_2), (2, .dat (.int .i64) left_2), (3, .dat .bool free_2), (8, .ptr 8 0 THeader []), (11, .dat (.int .i64) first_1), (15, .lst (.tip 100015 0) TCube parts), (16, .dat (.int .i64) i_1)], [(100015, .tok 0), (8, .box 0 false (.dat THeader v8_1))]⟩ = ref08_look.l1 n (ref08_look n k) l_2 free_2 first_1 parts v8_1 m1 left_2 i_1
  | 0, _, _ => rfl
  | m1 + 1, left_2, i_1 =>
    (ref08_look.l1.step n k m1 l_2 left_2 free_2 first_1 parts i_1 v8_1).trans (congr1 (fun k1 => ref08_look.s1 n (ref08_look n k) k1 l_2 left_2 free_2 first_1 parts i_1 v8_1) (funext fun left_2' => funext fun i_1' => ref08_look.l1.eq n k l_2 free_2 first_1 parts v8_1 m1 left_2' i_1'))
theorem ref08_look.l0.step (n k : Nat) (m0 : Nat) (l_1 : (List Cube)) (left_1 : Int) (free_1 : Bool) (first : Int) (i : Int) (c_1 : Cube) (v8 : Header) : it (EmR.no _) (ref08_look.C n k) n (Code.go ref08_look.code [1, 1, 1, 1, 0, 1, 0, 0]) (blockK 0 (seqK (EmR.no _) (ref08_look.C n k) n (Code.go ref08_look.code [1, 1, 1, 1, 1]) (bodyK (ref08_look.C n k) f71 ref08_look.rs))) (m0 + 1) ⟨[(1, .dat (.slc TCube) l_1), (2, .dat (.int .i64) left_1), (3, .dat .bool free_1), (4, .ptr 4 0 TCube []), (8, .ptr 8 0 THeader []), (11, .dat (.int .i64) first), (12, .dat (.int .i64) i)], [(4, .box 0 true (.dat TCube c_1)), (8, .box 0 false (.dat THeader v8))]⟩ = ref08_look.s0 n (ref08_look n k) (fun (first' : Int) (i' : Int) => it (EmR.no _) (ref08_look.C n k) n (Code.go ref08_look.code [1, 1, 1, 1, 0, 1, 0, 0]) (blockK 0 (seqK (EmR.no _) (ref08_look.C n k) n (Code.go ref08_look.code [1, 1, 1, 1, 1]) (bodyK (ref08_look.C n k) f71 ref08_look.rs))) m0 ⟨[(1, .dat (.slc TCube) l_1), (2, .dat (.int .i64) left_1), (3, .dat .bool free_1), (4, .ptr 4 0 TCube []), (8, .ptr 8 0 THeader []), (11, .dat (.int .i64) (first')), (12, .dat (.int .i64) (i'))], [(4, .box 0 true (.dat TCube c_1)), (8, .box 0 false (.dat THeader v8))]⟩) (fun (l_2' : (List Cube)) (left_2' : Int) (free_2' : Bool) (first_1' : Int) (parts' : (List Cube)) (i_1' : Int) (v8_1' : Header) => it (EmR.no _) (ref08_look.C n k) n (Code.go ref08_look.code [1, 1, 1, 1, 1, 1, 1, 0, 1, 0, 0]) (blockK 2 (seqK (EmR.no _) (ref08_look.C n k) n (Code.go ref08_look.code [1, 1, 1, 1, 1, 1, 1, 1]) (bodyK (ref08_look.C n k) f71 ref08_look.rs))) n ⟨[(1, .dat (.slc TCube) (l_2')), (2, .dat (.int .i64) (left_2')), (3, .dat .bool (free_2')), (8, .ptr 8 0 THeader []), (11, .dat (.int .i64) (first_1')), (15, .lst (.tip 100015 0) TCube (parts')), (16, .dat (.int .i64) (i_1'))], [(100015, .tok 0), (8, .box 0 false (.dat THeader (v8_1')))]⟩) l_1 left_1 free_1 first i c_1 v8 := by kernel_rfl
theorem ref08_look.l0.eq (n k : Nat) (l_1 : (List Cube)) (left_1 : Int) (free_1 : Bool) (c_1 : Cube) (v8 : Header) : ∀ (m0 : Nat) (first : Int) (i : Int), it (EmR.no _) (ref08_look.C n k) n (Code.go ref08_look.code [1, 1, 1, 1, 0, 1, 0, 0]) (blockK 0 (seqK (EmR.no _) (ref08_look.C n k) n (Code.go ref08_look.code [1, 1, 1, 1, 1]) (bodyK (ref08_look.C n k) f71 ref08_look.rs))) m0 ⟨[(1, .dat (.slc TCube) l_1), (2, .dat (.int .i64) left_1), (3, .dat .bool free_1), (4, .ptr 4 0 TCube []), (8, .ptr 8 0 THeader []), (11, .dat (.int .i64) first), (12, .dat (.int .i64) i)], [(4, .box 0 true (.dat TCube c_1)), (8, .box 0 false (.dat THeader v8))]⟩ = ref08_look.l0 n (ref08_look n k) l_1 left_1 free_1 c_1 v8 m0 first i
  | 0, _, _ => rfl
  | m0 + 1, first, i =>
    (ref08_look.l0.step n k m0 l_1 left_1 free_1 first i c_1 v8).trans (congr2 (fun k0 k1 => ref08_look.s0 n (ref08_look n k) k0 k1 l_1 left_1 free_1 first i c_1 v8) (funext fun first' => funext fun i' => ref08_look.l0.eq n k l_1 left_1 free_1 c_1 v8 m0 first' i') (funext fun l_2' => funext fun left_2' => funext fun free_2' => funext fun first_1' => funext fun parts' => funext fun i_1' => funext fun v8_1' => ref08_look.l1.eq n k l_2' free_2' first_1' parts' v8_1' n left_2' i_1'))
theorem ref08_look.run0 (n k : Nat) (x : pdens ref08_look.ps) : Vi.run (ref08_look.C n k) n f71 ref08_look.ps ref08_look.rs x = ref08_look.s n (ref08_look n k) (fun (l_1' : (List Cube)) (left_1' : Int) (free_1' : Bool) (first' : Int) (i' : Int) (c_1' : Cube) (v8' : Header) => it (EmR.no _) (ref08_look.C n k) n (Code.go ref08_look.code [1, 1, 1, 1, 0, 1, 0, 0]) (blockK 0 (seqK (EmR.no _) (ref08_look.C n k) n (Code.go ref08_look.code [1, 1, 1, 1, 1]) (bodyK (ref08_look.C n k) f71 ref08_look.rs))) n ⟨[(1, .dat (.slc TCube) (l_1')), (2, .dat (.int .i64) (left_1')), (3, .dat .bool (free_1')), (4, .ptr 4 0 TCube []), (8, .ptr 8 0 THeader []), (11, .dat (.int .i64) (first')), (12, .dat (.int .i64) (i'))], [(4, .box 0 true (.dat TCube (c_1'))), (8, .box 0 false (.dat THeader (v8')))]⟩) x.1 x.2.1 x.2.2.1 x.2.2.2 := by kernel_rfl
theorem ref08_look.eq (n k : Nat) (x : pdens ref08_look.ps) : Vi.run (ref08_look.C n k) n f71 ref08_look.ps ref08_look.rs x = ref08_look n (k + 1) x.1 x.2.1 x.2.2.1 x.2.2.2 :=
  (ref08_look.run0 n k x).trans (congr1 (fun k0 => ref08_look.s n (ref08_look n k) k0 x.1 x.2.1 x.2.2.1 x.2.2.2) (funext fun l_1' => funext fun left_1' => funext fun free_1' => funext fun first' => funext fun i' => funext fun c_1' => funext fun v8' => ref08_look.l0.eq n k l_1' left_1' free_1' c_1' v8' n first' i'))
theorem ref08_look.sound (n : Nat) : ∀ k, SoundE prog 71 (ref08_look.e n k)
  | 0 => soundE_none func71 (by kernel_rfl) (by kernel_rfl) (fun _ => rfl)
  | k + 1 => soundE_of_run (C := ref08_look.C n k) (n := n) (ref08_look.ok n k (ref08_look.sound n k)) func71 (by kernel_rfl) (by kernel_rfl) (fun x r h => (ref08_look.eq n k x).trans h)

def ref08_Look.rs : List RTy := [.data THeader, .data .bool, .data (.int .i64)]
def ref08_Look.ps : List PTy := [.data TCube, .data (.slc TCube), .data (.int .i64)]
noncomputable def ref08_Look.e (n : Nat) : Ent := ⟨ref08_Look.ps, ref08_Look.rs, fun x => ref08_Look n x.1 x.2.1 x.2.2⟩
noncomputable def ref08_Look.C (n : Nat) : Ctx := { tab := tab, fts := fts, pts := pts, Γ := lookO [(71, ref08_look.e n n)], Γc := lookO [], Γs := lookO [], Γm := lookO [], Γo := lookO [], ntmps := f23.ntmps, keep := Vi.look ([], []) [], pins := [], cold := [3] }
theorem ref08_Look.ok (n : Nat) : CtxOk prog (ref08_Look.C n) := ⟨types, ftsOk_, ptsOk_, (fns_cons (ref08_look.sound n n) fns_nil), cls_nil, sqs_nil, ems_nil, mixed, ons_nil⟩
theorem ref08_Look.eq (n : Nat) (x : pdens ref08_Look.ps) : Vi.run (ref08_Look.C n) n f23 ref08_Look.ps ref08_Look.rs x = ref08_Look n x.1 x.2.1 x.2.2 := by kernel_rfl
theorem ref08_Look.sound (n : Nat) : SoundE prog 23 (ref08_Look.e n) :=
  soundE_of_run (C := ref08_Look.C n) (n := n) (ref08_Look.ok n) func23 (by kernel_rfl) (by kernel_rfl) (fun x r h => (ref08_Look.eq n x).trans h)

def law08_CoverLooks.rs : List RTy := [.data .bool]
def law08_CoverLooks.ps : List PTy := [.data TCube, .data (.slc TCube), .data (.int .i64)]
noncomputable def law08_CoverLooks.e (n : Nat) : Ent := ⟨law08_CoverLooks.ps, law08_CoverLooks.rs, fun x => law08_CoverLooks n x.1 x.2.1 x.2.2⟩
noncomputable def law08_CoverLooks.C (n : Nat) : Ctx := { tab := tab, fts := fts, pts := pts, Γ := lookO [(20, law08_light.e n), (21, law08_awake.e n), (22, cover_Look.e n), (23, ref08_Look.e n)], Γc := lookO [], Γs := lookO [], Γm := lookO [], Γo := lookO [], ntmps := f4.ntmps, keep := Vi.look ([], []) [], pins := [], cold := [3] }
theorem law08_CoverLooks.ok (n : Nat) : CtxOk prog (law08_CoverLooks.C n) := ⟨types, ftsOk_, ptsOk_, (fns_cons (law08_light.sound n) (fns_cons (law08_awake.sound n) (fns_cons (cover_Look.sound n) (fns_cons (ref08_Look.sound n) fns_nil)))), cls_nil, sqs_nil, ems_nil, mixed, ons_nil⟩
theorem law08_CoverLooks.eq (n : Nat) (x : pdens law08_CoverLooks.ps) : Vi.run (law08_CoverLooks.C n) n f4 law08_CoverLooks.ps law08_CoverLooks.rs x = law08_CoverLooks n x.1 x.2.1 x.2.2 := by kernel_rfl
theorem law08_CoverLooks.sound (n : Nat) : SoundE prog 4 (law08_CoverLooks.e n) :=
  soundE_of_run (C := law08_CoverLooks.C n) (n := n) (law08_CoverLooks.ok n) func4 (by kernel_rfl) (by kernel_rfl) (fun x r h => (law08_CoverLooks.eq n x).trans h)
def law08_CoverLooks.g (n : Nat) (x : pdens (law08_CoverLooks.τs.map PTy.data)) : Option Bool := law08_CoverLooks n x.1 x.2.1 x.2.2
theorem law08_CoverLooks.soundN (n : Nat) : SoundE prog 4 ⟨law08_CoverLooks.τs.map PTy.data, [.data .bool], law08_CoverLooks.g n⟩ := law08_CoverLooks.sound n

def law08_CoverEnough.rs : List RTy := [.data .bool]
def law08_CoverEnough.ps : List PTy := [.data TCube, .data (.slc TCube), .data (.int .u32)]
noncomputable def law08_CoverEnough.e (n : Nat) : Ent := ⟨law08_CoverEnough.ps, law08_CoverEnough.rs, fun x => law08_CoverEnough n x.1 x.2.1 x.2.2⟩
noncomputable def law08_CoverEnough.C (n : Nat) : Ctx := { tab := tab, fts := fts, pts := pts, Γ := lookO [(21, law08_awake.e n), (22, cover_Look.e n), (24, cover_Bound.e n)], Γc := lookO [], Γs := lookO [], Γm := lookO [], Γo := lookO [], ntmps := f5.ntmps, keep := Vi.look ([], []) [], pins := [], cold := [3] }
theorem law08_CoverEnough.ok (n : Nat) : CtxOk prog (law08_CoverEnough.C n) := ⟨types, ftsOk_, ptsOk_, (fns_cons (law08_awake.sound n) (fns_cons (cover_Look.sound n) (fns_cons (cover_Bound.sound n) fns_nil))), cls_nil, sqs_nil, ems_nil, mixed, ons_nil⟩
theorem law08_CoverEnough.eq (n : Nat) (x : pdens law08_CoverEnough.ps) : Vi.run (law08_CoverEnough.C n) n f5 law08_CoverEnough.ps law08_CoverEnough.rs x = law08_CoverEnough n x.1 x.2.1 x.2.2 := by kernel_rfl
theorem law08_CoverEnough.sound (n : Nat) : SoundE prog 5 (law08_CoverEnough.e n) :=
  soundE_of_run (C := law08_CoverEnough.C n) (n := n) (law08_CoverEnough.ok n) func5 (by kernel_rfl) (by kernel_rfl) (fun x r h => (law08_CoverEnough.eq n x).trans h)
def law08_CoverEnough.g (n : Nat) (x : pdens (law08_CoverEnough.τs.map PTy.data)) : Option Bool := law08_CoverEnough n x.1 x.2.1 x.2.2
theorem law08_CoverEnough.soundN (n : Nat) : SoundE prog 5 ⟨law08_CoverEnough.τs.map PTy.data, [.data .bool], law08_CoverEnough.g n⟩ := law08_CoverEnough.sound n

def slices_Equal_Cube.rs : List RTy := [.data .bool]
def slices_Equal_Cube.ps : List PTy := [.data (.slc TCube), .data (.slc TCube)]
noncomputable def slices_Equal_Cube.e (n : Nat) : Ent := ⟨slices_Equal_Cube.ps, slices_Equal_Cube.rs, fun x => slices_Equal_Cube n x.1 x.2⟩
noncomputable def slices_Equal_Cube.C (n : Nat) : Ctx := { tab := tab, fts := fts, pts := pts, Γ := lookO [], Γc := lookO [], Γs := lookO [], Γm := lookO [], Γo := lookO [], ntmps := f28.ntmps, keep := Vi.look ([], []) [(4, ([0, 1, 12, 13], []))], pins := [] }
theorem slices_Equal_Cube.ok (n : Nat) : CtxOk prog (slices_Equal_Cube.C n) := ⟨types, ftsOk_, ptsOk_, fns_nil, cls_nil, sqs_nil, ems_nil, mixed, ons_nil⟩
noncomputable def slices_Equal_Cube.code : Code := bodyOf f28
theorem slices_Equal_Cube.l0.step (n : Nat) (m0 : Nat) (s1_1 : (List Cube)) (s2_1 : (List Cube)) (v12 : Int) (v13 : Int) : it (EmR.no _) (slices_Equal_Cube.C n) n (Code.go slices_Equal_Cube.code [1, 1, 0, 1, 0, 0]) (blockK 0 (seqK (EmR.no _) (slices_Equal_Cube.C n) n (Code.go slices_Equal_Cube.code [1, 1, 1]) (bodyK (slices_Equal_Cube.C n) f28 slices_Equal_Cube.rs))) (m0 + 1) ⟨[(0, .dat (.slc TCube) s1_1), (1, .dat (.slc TCube) s2_1), (12, .dat (.int .i64) v12), (13, .dat (.int .i64) v13)], []⟩ = slices_Equal_Cube.s0 n (fun (v13' : Int) => it (EmR.no _) (slices_Equal_Cube.C n) n (Code.go slices_Equal_Cube.code [1, 1, 0, 1, 0, 0]) (blockK 0 (seqK (EmR.no _) (slices_Equal_Cube.C n) n (Code.go slices_Equal_Cube.code [1, 1, 1]) (bodyK (slices_Equal_Cube.C n) f28 slices_Equal_Cube.rs))) m0 ⟨[(0, .dat (.slc TCube) s1_1), (1, .dat (.slc TCube) s2_1), (12, .dat (.int .i64) v12), (13, .dat (.int .i64) (v13'))], []⟩) s1_1 s2_1 v12 v13 := by kernel_rfl
theorem slices_Equal_Cube.l0.eq (n : Nat) (s1_1 : (List Cube)) (s2_1 : (List Cube)) (v12 : Int) : ∀ (m0 : Nat) (v13 : Int), it (EmR.no _) (slices_Equal_Cube.C n) n (Code.go slices_Equal_Cube.code [1, 1, 0, 1, 0, 0]) (blockK 0 (seqK (EmR.no _) (slices_Equal_Cube.C n) n (Code.go slices_Equal_Cube.code [1, 1, 1]) (bodyK (slices_Equal_Cube.C n) f28 slices_Equal_Cube.rs))) m0 ⟨[(0, .dat (.slc TCube) s1_1), (1, .dat (.slc TCube) s2_1), (12, .dat (.int .i64) v12), (13, .dat (.int .i64) v13)], []⟩ = slices_Equal_Cube.l0 n s1_1 s2_1 v12 m0 v13
  | 0, _ => rfl
  | m0 + 1, v13 =>
    (slices_Equal_Cube.l0.step n m0 s1_1 s2_1 v12 v13).trans (congr1 (fun k0 => slices_Equal_Cube.s0 n k0 s1_1 s2_1 v12 v13) (funext fun v13' => slices_Equal_Cube.l0.eq n s1_1 s2_1 v12 m0 v13'))
theorem slices_Equal_Cube.run0 (n : Nat) (x : pdens slices_Equal_Cube.ps) : Vi.run (slices_Equal_Cube.C n) n f28 slices_Equal_Cube.ps slices_Equal_Cube.rs x = slices_Equal_Cube.s n (fun (s1_1' : (List Cube)) (s2_1' : (List Cube)) (v12' : Int) (v13' : Int) => it (EmR.no _) (slices_Equal_Cube.C n) n (Code.go slices_Equal_Cube.code [1, 1, 0, 1, 0, 0]) (blockK 0 (seqK (EmR.no _) (slices_Equal_Cube.C n) n (Code.go slices_Equal_Cube.code [1, 1, 1]) (bodyK (slices_Equal_Cube.C n) f28 slices_Equal_Cube.rs))) n ⟨[(0, .dat (.slc TCube) (s1_1')), (1, .dat (.slc TCube) (s2_1')), (12, .dat (.int .i64) (v12')), (13, .dat (.int .i64) (v13'))], []⟩) x.1 x.2 := by kernel_rfl
theorem slices_Equal_Cube.eq (n : Nat) (x : pdens slices_Equal_Cube.ps) : Vi.run (slices_Equal_Cube.C n) n f28 slices_Equal_Cube.ps slices_Equal_Cube.rs x = slices_Equal_Cube n x.1 x.2 :=
  (slices_Equal_Cube.run0 n x).trans (congr1 (fun k0 => slices_Equal_Cube.s n k0 x.1 x.2) (funext fun s1_1' => funext fun s2_1' => funext fun v12' => funext fun v13' => slices_Equal_Cube.l0.eq n s1_1' s2_1' v12' n v13'))
theorem slices_Equal_Cube.sound (n : Nat) : SoundE prog 28 (slices_Equal_Cube.e n) :=
  soundE_of_run (C := slices_Equal_Cube.C n) (n := n) (slices_Equal_Cube.ok n) func28 (by kernel_rfl) (by kernel_rfl) (fun x r h => (slices_Equal_Cube.eq n x).trans h)

def law08_CoverMeets.rs : List RTy := [.data .bool]
def law08_CoverMeets.ps : List PTy := [.data TCube, .data (.slc TCube)]
noncomputable def law08_CoverMeets.e (n : Nat) : Ent := ⟨law08_CoverMeets.ps, law08_CoverMeets.rs, fun x => law08_CoverMeets n x.1 x.2⟩
noncomputable def law08_CoverMeets.C (n : Nat) : Ctx := { tab := tab, fts := fts, pts := pts, Γ := lookO [(21, law08_awake.e n), (24, cover_Bound.e n), (28, slices_Equal_Cube.e n), (33, cover_Meets.e n), (34, ref08_Meets.e n), (35, ref08_Bound.e n)], Γc := lookO [], Γs := lookO [], Γm := lookO [], Γo := lookO [], ntmps := f8.ntmps, keep := Vi.look ([], []) [], pins := [], cold := [2] }
theorem law08_CoverMeets.ok (n : Nat) : CtxOk prog (law08_CoverMeets.C n) := ⟨types, ftsOk_, ptsOk_, (fns_cons (law08_awake.sound n) (fns_cons (cover_Bound.sound n) (fns_cons (slices_Equal_Cube.sound n) (fns_cons (cover_Meets.sound n) (fns_cons (ref08_Meets.sound n) (fns_cons (ref08_Bound.sound n) fns_nil)))))), cls_nil, sqs_nil, ems_nil, mixed, ons_nil⟩
theorem law08_CoverMeets.eq (n : Nat) (x : pdens law08_CoverMeets.ps) : Vi.run (law08_CoverMeets.C n) n f8 law08_CoverMeets.ps law08_CoverMeets.rs x = law08_CoverMeets n x.1 x.2 := by kernel_rfl
theorem law08_CoverMeets.sound (n : Nat) : SoundE prog 8 (law08_CoverMeets.e n) :=
  soundE_of_run (C := law08_CoverMeets.C n) (n := n) (law08_CoverMeets.ok n) func8 (by kernel_rfl) (by kernel_rfl) (fun x r h => (law08_CoverMeets.eq n x).trans h)
def law08_CoverMeets.g (n : Nat) (x : pdens (law08_CoverMeets.τs.map PTy.data)) : Option Bool := law08_CoverMeets n x.1 x.2
theorem law08_CoverMeets.soundN (n : Nat) : SoundE prog 8 ⟨law08_CoverMeets.τs.map PTy.data, [.data .bool], law08_CoverMeets.g n⟩ := law08_CoverMeets.sound n

def cube_Has.rs : List RTy := [.data .bool]
def cube_Has.ps : List PTy := [.data TCube, .data THeader]
noncomputable def cube_Has.e (n : Nat) : Ent := ⟨cube_Has.ps, cube_Has.rs, fun x => cube_Has n x.1 x.2⟩
noncomputable def cube_Has.C (n : Nat) : Ctx := { tab := tab, fts := fts, pts := pts, Γ := lookO [(68, tern_Has.e n)], Γc := lookO [], Γs := lookO [], Γm := lookO [], Γo := lookO [], ntmps := f19.ntmps, keep := Vi.look ([], []) [(2, ([3, 7, 8], [3]))], pins := [], cold := [2] }
theorem cube_Has.ok (n : Nat) : CtxOk prog (cube_Has.C n) := ⟨types, ftsOk_, ptsOk_, (fns_cons (tern_Has.sound n) fns_nil), cls_nil, sqs_nil, ems_nil, mixed, ons_nil⟩
noncomputable def cube_Has.code : Code := bodyOf f19
theorem cube_Has.l0.step (n : Nat) (m0 : Nat) (v7 : Cube) (v8 : Int) (h_1 : Header) : it (EmR.no _) (cube_Has.C n) n (Code.go cube_Has.code [1, 0, 1, 0, 0]) (blockK 0 (seqK (EmR.no _) (cube_Has.C n) n (Code.go cube_Has.code [1, 1]) (bodyK (cube_Has.C n) f19 cube_Has.rs))) (m0 + 1) ⟨[(3, .ptr 3 0 THeader []), (7, .dat TCube v7), (8, .dat (.int .i64) v8)], [(3, .box 0 false (.dat THeader h_1))]⟩ = cube_Has.s0 n (fun (v8' : Int) => it (EmR.no _) (cube_Has.C n) n (Code.go cube_Has.code [1, 0, 1, 0, 0]) (blockK 0 (seqK (EmR.no _) (cube_Has.C n) n (Code.go cube_Has.code [1, 1]) (bodyK (cube_Has.C n) f19 cube_Has.rs))) m0 ⟨[(3, .ptr 3 0 THeader []), (7, .dat TCube v7), (8, .dat (.int .i64) (v8'))], [(3, .box 0 false (.dat THeader h_1))]⟩) v7 v8 h_1 := by kernel_rfl
theorem cube_Has.l0.eq (n : Nat) (v7 : Cube) (h_1 : Header) : ∀ (m0 : Nat) (v8 : Int), it (EmR.no _) (cube_Has.C n) n (Code.go cube_Has.code [1, 0, 1, 0, 0]) (blockK 0 (seqK (EmR.no _) (cube_Has.C n) n (Code.go cube_Has.code [1, 1]) (bodyK (cube_Has.C n) f19 cube_Has.rs))) m0 ⟨[(3, .ptr 3 0 THeader []), (7, .dat TCube v7), (8, .dat (.int .i64) v8)], [(3, .box 0 false (.dat THeader h_1))]⟩ = cube_Has.l0 n v7 h_1 m0 v8
  | 0, _ => rfl
  | m0 + 1, v8 =>
    (cube_Has.l0.step n m0 v7 v8 h_1).trans (congr1 (fun k0 => cube_Has.s0 n k0 v7 v8 h_1) (funext fun v8' => cube_Has.l0.eq n v7 h_1 m0 v8'))
theorem cube_Has.run0 (n : Nat) (x : pdens cube_Has.ps) : Vi.run (cube_Has.C n) n f19 cube_Has.ps cube_Has.rs x = cube_Has.s n (fun (v7' : Cube) (v8' : Int) (h_1' : Header) => it (EmR.no _) (cube_Has.C n) n (Code.go cube_Has.code [1, 0, 1, 0, 0]) (blockK 0 (seqK (EmR.no _) (cube_Has.C n) n (Code.go cube_Has.code [1, 1]) (bodyK (cube_Has.C n) f19 cube_Has.rs))) n ⟨[(3, .ptr 3 0 THeader []), (7, .dat TCube (v7')), (8, .dat (.int .i64) (v8'))], [(3, .box 0 false (.dat THeader (h_1')))]⟩) x.1 x.2 := by kernel_rfl
theorem cube_Has.eq (n : Nat) (x : pdens cube_Has.ps) : Vi.run (cube_Has.C n) n f19 cube_Has.ps cube_Has.rs x = cube_Has n x.1 x.2 :=
  (cube_Has.run0 n x).trans (congr1 (fun k0 => cube_Has.s n k0 x.1 x.2) (funext fun v7' => funext fun v8' => funext fun h_1' => cube_Has.l0.eq n v7' h_1' n v8'))
theorem cube_Has.sound (n : Nat) : SoundE prog 19 (cube_Has.e n) :=
  soundE_of_run (C := cube_Has.C n) (n := n) (cube_Has.ok n) func19 (by kernel_rfl) (by kernel_rfl) (fun x r h => (cube_Has.eq n x).trans h)

def law08_CoverTells_1.rs : List Ty := [.bool]
def law08_CoverTells_1.ps : List Ty := [TCube]
def law08_CoverTells_1.caps : List PTy := [.cptr THeader]
noncomputable def law08_CoverTells_1.e (n : Nat) : Cl := ⟨law08_CoverTells_1.ps, law08_CoverTells_1.caps, law08_CoverTells_1.rs, fun x c => law08_CoverTells_1 n x c⟩
noncomputable def law08_CoverTells_1.C (n : Nat) : Ctx := { tab := tab, fts := fts, pts := pts, Γ := lookO [(19, cube_Has.e n)], Γc := lookO [], Γs := lookO [], Γm := lookO [], Γo := lookO [], ntmps := f37.ntmps, keep := Vi.look ([], []) [], pins := [], cold := [2] }
theorem law08_CoverTells_1.ok (n : Nat) : CtxOk prog (law08_CoverTells_1.C n) := ⟨types, ftsOk_, ptsOk_, (fns_cons (cube_Has.sound n) fns_nil), cls_nil, sqs_nil, ems_nil, mixed, ons_nil⟩
theorem law08_CoverTells_1.eq (n : Nat) (x : dens law08_CoverTells_1.ps) (c : pdens law08_CoverTells_1.caps) : Vi.runC (law08_CoverTells_1.C n) n f37 law08_CoverTells_1.ps law08_CoverTells_1.caps law08_CoverTells_1.rs x c = law08_CoverTells_1 n x c := by kernel_rfl
theorem law08_CoverTells_1.sound (n : Nat) : SoundC prog 37 (law08_CoverTells_1.e n) :=
  soundC_of_run (C := law08_CoverTells_1.C n) (n := n) (law08_CoverTells_1.ok n) func37 (by kernel_rfl) (by kernel_rfl) (fun x c r h => (law08_CoverTells_1.eq n x c).trans h)

def slices_IndexFunc_Cube.rs : List RTy := [.data (.int .i64)]
def slices_IndexFunc_Cube.ps : List PTy := [.data (.slc TCube), .fnp [TCube] [.bool]]
noncomputable def slices_IndexFunc_Cube.e (n : Nat) : Ent := ⟨slices_IndexFunc_Cube.ps, slices_IndexFunc_Cube.rs, fun x => slices_IndexFunc_Cube n x.1 x.2⟩
noncomputable def slices_IndexFunc_Cube.C (n : Nat) : Ctx := { tab := tab, fts := fts, pts := pts, Γ := lookO [], Γc := lookO [], Γs := lookO [], Γm := lookO [], Γo := lookO [], ntmps := f78.ntmps, keep := Vi.look ([], []) [(2, ([0, 1, 7, 8], []))], pins := [] }
theorem slices_IndexFunc_Cube.ok (n : Nat) : CtxOk prog (slices_IndexFunc_Cube.C n) := ⟨types, ftsOk_, ptsOk_, fns_nil, cls_nil, sqs_nil, ems_nil, mixed, ons_nil⟩
noncomputable def slices_IndexFunc_Cube.code : Code := bodyOf f78
theorem slices_IndexFunc_Cube.l0.step (n : Nat) (m0 : Nat) (s_1 : (List Cube)) (f_1 : (Cube → Option Bool)) (v7 : Int) (v8 : Int) : it (EmR.no _) (slices_IndexFunc_Cube.C n) n (Code.go slices_IndexFunc_Cube.code [1, 0, 1, 0, 0]) (blockK 0 (seqK (EmR.no _) (slices_IndexFunc_Cube.C n) n (Code.go slices_IndexFunc_Cube.code [1, 1]) (bodyK (slices_IndexFunc_Cube.C n) f78 slices_IndexFunc_Cube.rs))) (m0 + 1) ⟨[(0, .dat (.slc TCube) s_1), (1, .fn [TCube] [.bool] f_1), (7, .dat (.int .i64) v7), (8, .dat (.int .i64) v8)], []⟩ = slices_IndexFunc_Cube.s0 n (fun (v8' : Int) => it (EmR.no _) (slices_IndexFunc_Cube.C n) n (Code.go slices_IndexFunc_Cube.code [1, 0, 1, 0, 0]) (blockK 0 (seqK (EmR.no _) (slices_IndexFunc_Cube.C n) n (Code.go slices_IndexFunc_Cube.code [1, 1]) (bodyK (slices_IndexFunc_Cube.C n) f78 slices_IndexFunc_Cube.rs))) m0 ⟨[(0, .dat (.slc TCube) s_1), (1, .fn [TCube] [.bool] f_1), (7, .dat (.int .i64) v7), (8, .dat (.int .i64) (v8'))], []⟩) s_1 f_1 v7 v8 := by kernel_rfl
theorem slices_IndexFunc_Cube.l0.eq (n : Nat) (s_1 : (List Cube)) (f_1 : (Cube → Option Bool)) (v7 : Int) : ∀ (m0 : Nat) (v8 : Int), it (EmR.no _) (slices_IndexFunc_Cube.C n) n (Code.go slices_IndexFunc_Cube.code [1, 0, 1, 0, 0]) (blockK 0 (seqK (EmR.no _) (slices_IndexFunc_Cube.C n) n (Code.go slices_IndexFunc_Cube.code [1, 1]) (bodyK (slices_IndexFunc_Cube.C n) f78 slices_IndexFunc_Cube.rs))) m0 ⟨[(0, .dat (.slc TCube) s_1), (1, .fn [TCube] [.bool] f_1), (7, .dat (.int .i64) v7), (8, .dat (.int .i64) v8)], []⟩ = slices_IndexFunc_Cube.l0 n s_1 f_1 v7 m0 v8
  | 0, _ => rfl
  | m0 + 1, v8 =>
    (slices_IndexFunc_Cube.l0.step n m0 s_1 f_1 v7 v8).trans (congr1 (fun k0 => slices_IndexFunc_Cube.s0 n k0 s_1 f_1 v7 v8) (funext fun v8' => slices_IndexFunc_Cube.l0.eq n s_1 f_1 v7 m0 v8'))
theorem slices_IndexFunc_Cube.run0 (n : Nat) (x : pdens slices_IndexFunc_Cube.ps) : Vi.run (slices_IndexFunc_Cube.C n) n f78 slices_IndexFunc_Cube.ps slices_IndexFunc_Cube.rs x = slices_IndexFunc_Cube.s n (fun (s_1' : (List Cube)) (f_1' : (Cube → Option Bool)) (v7' : Int) (v8' : Int) => it (EmR.no _) (slices_IndexFunc_Cube.C n) n (Code.go slices_IndexFunc_Cube.code [1, 0, 1, 0, 0]) (blockK 0 (seqK (EmR.no _) (slices_IndexFunc_Cube.C n) n (Code.go slices_IndexFunc_Cube.code [1, 1]) (bodyK (slices_IndexFunc_Cube.C n) f78 slices_IndexFunc_Cube.rs))) n ⟨[(0, .dat (.slc TCube) (s_1')), (1, .fn [TCube] [.bool] (f_1')), (7, .dat (.int .i64) (v7')), (8, .dat (.int .i64) (v8'))], []⟩) x.1 x.2 := by kernel_rfl
theorem slices_IndexFunc_Cube.eq (n : Nat) (x : pdens slices_IndexFunc_Cube.ps) : Vi.run (slices_IndexFunc_Cube.C n) n f78 slices_IndexFunc_Cube.ps slices_IndexFunc_Cube.rs x = slices_IndexFunc_Cube n x.1 x.2 :=
  (slices_IndexFunc_Cube.run0 n x).trans (congr1 (fun k0 => slices_IndexFunc_Cube.s n k0 x.1 x.2) (funext fun s_1' => funext fun f_1' => funext fun v7' => funext fun v8' => slices_IndexFunc_Cube.l0.eq n s_1' f_1' v7' n v8'))
theorem slices_IndexFunc_Cube.sound (n : Nat) : SoundE prog 78 (slices_IndexFunc_Cube.e n) :=
  soundE_of_run (C := slices_IndexFunc_Cube.C n) (n := n) (slices_IndexFunc_Cube.ok n) func78 (by kernel_rfl) (by kernel_rfl) (fun x r h => (slices_IndexFunc_Cube.eq n x).trans h)

def slices_ContainsFunc_Cube.rs : List RTy := [.data .bool]
def slices_ContainsFunc_Cube.ps : List PTy := [.data (.slc TCube), .fnp [TCube] [.bool]]
noncomputable def slices_ContainsFunc_Cube.e (n : Nat) : Ent := ⟨slices_ContainsFunc_Cube.ps, slices_ContainsFunc_Cube.rs, fun x => slices_ContainsFunc_Cube n x.1 x.2⟩
noncomputable def slices_ContainsFunc_Cube.C (n : Nat) : Ctx := { tab := tab, fts := fts, pts := pts, Γ := lookO [(78, slices_IndexFunc_Cube.e n)], Γc := lookO [], Γs := lookO [], Γm := lookO [], Γo := lookO [], ntmps := f36.ntmps, keep := Vi.look ([], []) [], pins := [] }
theorem slices_ContainsFunc_Cube.ok (n : Nat) : CtxOk prog (slices_ContainsFunc_Cube.C n) := ⟨types, ftsOk_, ptsOk_, (fns_cons (slices_IndexFunc_Cube.sound n) fns_nil), cls_nil, sqs_nil, ems_nil, mixed, ons_nil⟩
theorem slices_ContainsFunc_Cube.eq (n : Nat) (x : pdens slices_ContainsFunc_Cube.ps) : Vi.run (slices_ContainsFunc_Cube.C n) n f36 slices_ContainsFunc_Cube.ps slices_ContainsFunc_Cube.rs x = slices_ContainsFunc_Cube n x.1 x.2 := by kernel_rfl
theorem slices_ContainsFunc_Cube.sound (n : Nat) : SoundE prog 36 (slices_ContainsFunc_Cube.e n) :=
  soundE_of_run (C := slices_ContainsFunc_Cube.C n) (n := n) (slices_ContainsFunc_Cube.ok n) func36 (by kernel_rfl) (by kernel_rfl) (fun x r h => (slices_ContainsFunc_Cube.eq n x).trans h)

def law08_CoverTells_2.rs : List Ty := [.bool]
def law08_CoverTells_2.ps : List Ty := [TCube]
def law08_CoverTells_2.caps : List PTy := [.cptr THeader]
noncomputable def law08_CoverTells_2.e (n : Nat) : Cl := ⟨law08_CoverTells_2.ps, law08_CoverTells_2.caps, law08_CoverTells_2.rs, fun x c => law08_CoverTells_2 n x c⟩
noncomputable def law08_CoverTells_2.C (n : Nat) : Ctx := { tab := tab, fts := fts, pts := pts, Γ := lookO [(19, cube_Has.e n)], Γc := lookO [], Γs := lookO [], Γm := lookO [], Γo := lookO [], ntmps := f38.ntmps, keep := Vi.look ([], []) [], pins := [], cold := [2] }
theorem law08_CoverTells_2.ok (n : Nat) : CtxOk prog (law08_CoverTells_2.C n) := ⟨types, ftsOk_, ptsOk_, (fns_cons (cube_Has.sound n) fns_nil), cls_nil, sqs_nil, ems_nil, mixed, ons_nil⟩
theorem law08_CoverTells_2.eq (n : Nat) (x : dens law08_CoverTells_2.ps) (c : pdens law08_CoverTells_2.caps) : Vi.runC (law08_CoverTells_2.C n) n f38 law08_CoverTells_2.ps law08_CoverTells_2.caps law08_CoverTells_2.rs x c = law08_CoverTells_2 n x c := by kernel_rfl
theorem law08_CoverTells_2.sound (n : Nat) : SoundC prog 38 (law08_CoverTells_2.e n) :=
  soundC_of_run (C := law08_CoverTells_2.C n) (n := n) (law08_CoverTells_2.ok n) func38 (by kernel_rfl) (by kernel_rfl) (fun x c r h => (law08_CoverTells_2.eq n x c).trans h)

def law08_CoverTells.rs : List RTy := [.data .bool]
def law08_CoverTells.ps : List PTy := [.data TCube, .data (.slc TCube), .data (.int .i64), .data THeader]
noncomputable def law08_CoverTells.e (n : Nat) : Ent := ⟨law08_CoverTells.ps, law08_CoverTells.rs, fun x => law08_CoverTells n x.1 x.2.1 x.2.2.1 x.2.2.2⟩
noncomputable def law08_CoverTells.C (n : Nat) : Ctx := { tab := tab, fts := fts, pts := pts, Γ := lookO [(19, cube_Has.e n), (20, law08_light.e n), (21, law08_awake.e n), (22, cover_Look.e n), (36, slices_ContainsFunc_Cube.e n)], Γc := lookO [(37, law08_CoverTells_1.e n), (38, law08_CoverTells_2.e n)], Γs := lookO [], Γm := lookO [], Γo := lookO [], ntmps := f9.ntmps, keep := Vi.look ([], []) [], pins := [], cold := [4, 7] }
theorem law08_CoverTells.ok (n : Nat) : CtxOk prog (law08_CoverTells.C n) := ⟨types, ftsOk_, ptsOk_, (fns_cons (cube_Has.sound n) (fns_cons (law08_light.sound n) (fns_cons (law08_awake.sound n) (fns_cons (cover_Look.sound n) (fns_cons (slices_ContainsFunc_Cube.sound n) fns_nil))))), (cls_cons (law08_CoverTells_1.sound n) (cls_cons (law08_CoverTells_2.sound n) cls_nil)), sqs_nil, ems_nil, mixed, ons_nil⟩
theorem law08_CoverTells.eq (n : Nat) (x : pdens law08_CoverTells.ps) : Vi.run (law08_CoverTells.C n) n f9 law08_CoverTells.ps law08_CoverTells.rs x = law08_CoverTells n x.1 x.2.1 x.2.2.1 x.2.2.2 := by kernel_rfl
theorem law08_CoverTells.sound (n : Nat) : SoundE prog 9 (law08_CoverTells.e n) :=
  soundE_of_run (C := law08_CoverTells.C n) (n := n) (law08_CoverTells.ok n) func9 (by kernel_rfl) (by kernel_rfl) (fun x r h => (law08_CoverTells.eq n x).trans h)
def law08_CoverTells.g (n : Nat) (x : pdens (law08_CoverTells.τs.map PTy.data)) : Option Bool := law08_CoverTells n x.1 x.2.1 x.2.2.1 x.2.2.2
theorem law08_CoverTells.soundN (n : Nat) : SoundE prog 9 ⟨law08_CoverTells.τs.map PTy.data, [.data .bool], law08_CoverTells.g n⟩ := law08_CoverTells.sound n

def slices_IndexFunc_Rule.rs : List RTy := [.data (.int .i64)]
def slices_IndexFunc_Rule.ps : List PTy := [.data (.slc TRule), .fnp [TRule] [.bool]]
noncomputable def slices_IndexFunc_Rule.e (n : Nat) : Ent := ⟨slices_IndexFunc_Rule.ps, slices_IndexFunc_Rule.rs, fun x => slices_IndexFunc_Rule n x.1 x.2⟩
noncomputable def slices_IndexFunc_Rule.C (n : Nat) : Ctx := { tab := tab, fts := fts, pts := pts, Γ := lookO [], Γc := lookO [], Γs := lookO [], Γm := lookO [], Γo := lookO [], ntmps := f66.ntmps, keep := Vi.look ([], []) [(2, ([0, 1, 7, 8], []))], pins := [] }
theorem slices_IndexFunc_Rule.ok (n : Nat) : CtxOk prog (slices_IndexFunc_Rule.C n) := ⟨types, ftsOk_, ptsOk_, fns_nil, cls_nil, sqs_nil, ems_nil, mixed, ons_nil⟩
noncomputable def slices_IndexFunc_Rule.code : Code := bodyOf f66
theorem slices_IndexFunc_Rule.l0.step (n : Nat) (m0 : Nat) (s_1 : (List Rule)) (f_1 : (Rule → Option Bool)) (v7 : Int) (v8 : Int) : it (EmR.no _) (slices_IndexFunc_Rule.C n) n (Code.go slices_IndexFunc_Rule.code [1, 0, 1, 0, 0]) (blockK 0 (seqK (EmR.no _) (slices_IndexFunc_Rule.C n) n (Code.go slices_IndexFunc_Rule.code [1, 1]) (bodyK (slices_IndexFunc_Rule.C n) f66 slices_IndexFunc_Rule.rs))) (m0 + 1) ⟨[(0, .dat (.slc TRule) s_1), (1, .fn [TRule] [.bool] f_1), (7, .dat (.int .i64) v7), (8, .dat (.int .i64) v8)], []⟩ = slices_IndexFunc_Rule.s0 n (fun (v8' : Int) => it (EmR.no _) (slices_IndexFunc_Rule.C n) n (Code.go slices_IndexFunc_Rule.code [1, 0, 1, 0, 0]) (blockK 0 (seqK (EmR.no _) (slices_IndexFunc_Rule.C n) n (Code.go slices_IndexFunc_Rule.code [1, 1]) (bodyK (slices_IndexFunc_Rule.C n) f66 slices_IndexFunc_Rule.rs))) m0 ⟨[(0, .dat (.slc TRule) s_1), (1, .fn [TRule] [.bool] f_1), (7, .dat (.int .i64) v7), (8, .dat (.int .i64) (v8'))], []⟩) s_1 f_1 v7 v8 := by kernel_rfl
theorem slices_IndexFunc_Rule.l0.eq (n : Nat) (s_1 : (List Rule)) (f_1 : (Rule → Option Bool)) (v7 : Int) : ∀ (m0 : Nat) (v8 : Int), it (EmR.no _) (slices_IndexFunc_Rule.C n) n (Code.go slices_IndexFunc_Rule.code [1, 0, 1, 0, 0]) (blockK 0 (seqK (EmR.no _) (slices_IndexFunc_Rule.C n) n (Code.go slices_IndexFunc_Rule.code [1, 1]) (bodyK (slices_IndexFunc_Rule.C n) f66 slices_IndexFunc_Rule.rs))) m0 ⟨[(0, .dat (.slc TRule) s_1), (1, .fn [TRule] [.bool] f_1), (7, .dat (.int .i64) v7), (8, .dat (.int .i64) v8)], []⟩ = slices_IndexFunc_Rule.l0 n s_1 f_1 v7 m0 v8
  | 0, _ => rfl
  | m0 + 1, v8 =>
    (slices_IndexFunc_Rule.l0.step n m0 s_1 f_1 v7 v8).trans (congr1 (fun k0 => slices_IndexFunc_Rule.s0 n k0 s_1 f_1 v7 v8) (funext fun v8' => slices_IndexFunc_Rule.l0.eq n s_1 f_1 v7 m0 v8'))
theorem slices_IndexFunc_Rule.run0 (n : Nat) (x : pdens slices_IndexFunc_Rule.ps) : Vi.run (slices_IndexFunc_Rule.C n) n f66 slices_IndexFunc_Rule.ps slices_IndexFunc_Rule.rs x = slices_IndexFunc_Rule.s n (fun (s_1' : (List Rule)) (f_1' : (Rule → Option Bool)) (v7' : Int) (v8' : Int) => it (EmR.no _) (slices_IndexFunc_Rule.C n) n (Code.go slices_IndexFunc_Rule.code [1, 0, 1, 0, 0]) (blockK 0 (seqK (EmR.no _) (slices_IndexFunc_Rule.C n) n (Code.go slices_IndexFunc_Rule.code [1, 1]) (bodyK (slices_IndexFunc_Rule.C n) f66 slices_IndexFunc_Rule.rs))) n ⟨[(0, .dat (.slc TRule) (s_1')), (1, .fn [TRule] [.bool] (f_1')), (7, .dat (.int .i64) (v7')), (8, .dat (.int .i64) (v8'))], []⟩) x.1 x.2 := by kernel_rfl
theorem slices_IndexFunc_Rule.eq (n : Nat) (x : pdens slices_IndexFunc_Rule.ps) : Vi.run (slices_IndexFunc_Rule.C n) n f66 slices_IndexFunc_Rule.ps slices_IndexFunc_Rule.rs x = slices_IndexFunc_Rule n x.1 x.2 :=
  (slices_IndexFunc_Rule.run0 n x).trans (congr1 (fun k0 => slices_IndexFunc_Rule.s n k0 x.1 x.2) (funext fun s_1' => funext fun f_1' => funext fun v7' => funext fun v8' => slices_IndexFunc_Rule.l0.eq n s_1' f_1' v7' n v8'))
theorem slices_IndexFunc_Rule.sound (n : Nat) : SoundE prog 66 (slices_IndexFunc_Rule.e n) :=
  soundE_of_run (C := slices_IndexFunc_Rule.C n) (n := n) (slices_IndexFunc_Rule.ok n) func66 (by kernel_rfl) (by kernel_rfl) (fun x r h => (slices_IndexFunc_Rule.eq n x).trans h)

def slices_ContainsFunc_Rule.rs : List RTy := [.data .bool]
def slices_ContainsFunc_Rule.ps : List PTy := [.data (.slc TRule), .fnp [TRule] [.bool]]
noncomputable def slices_ContainsFunc_Rule.e (n : Nat) : Ent := ⟨slices_ContainsFunc_Rule.ps, slices_ContainsFunc_Rule.rs, fun x => slices_ContainsFunc_Rule n x.1 x.2⟩
noncomputable def slices_ContainsFunc_Rule.C (n : Nat) : Ctx := { tab := tab, fts := fts, pts := pts, Γ := lookO [(66, slices_IndexFunc_Rule.e n)], Γc := lookO [], Γs := lookO [], Γm := lookO [], Γo := lookO [], ntmps := f110.ntmps, keep := Vi.look ([], []) [], pins := [] }
theorem slices_ContainsFunc_Rule.ok (n : Nat) : CtxOk prog (slices_ContainsFunc_Rule.C n) := ⟨types, ftsOk_, ptsOk_, (fns_cons (slices_IndexFunc_Rule.sound n) fns_nil), cls_nil, sqs_nil, ems_nil, mixed, ons_nil⟩
theorem slices_ContainsFunc_Rule.eq (n : Nat) (x : pdens slices_ContainsFunc_Rule.ps) : Vi.run (slices_ContainsFunc_Rule.C n) n f110 slices_ContainsFunc_Rule.ps slices_ContainsFunc_Rule.rs x = slices_ContainsFunc_Rule n x.1 x.2 := by kernel_rfl
theorem slices_ContainsFunc_Rule.sound (n : Nat) : SoundE prog 110 (slices_ContainsFunc_Rule.e n) :=
  soundE_of_run (C := slices_ContainsFunc_Rule.C n) (n := n) (slices_ContainsFunc_Rule.ok n) func110 (by kernel_rfl) (by kernel_rfl) (fun x r h => (slices_ContainsFunc_Rule.eq n x).trans h)

def plain_Atoms.rs : List RTy := [.data .bool]
def plain_Atoms.ps : List PTy := [.data (.slc TAtom)]
noncomputable def plain_Atoms.e (n : Nat) : Ent := ⟨plain_Atoms.ps, plain_Atoms.rs, fun x => some (plain_Atoms x)⟩
noncomputable def plain_Atoms.C (n : Nat) : Ctx := { tab := tab, fts := fts, pts := pts, Γ := lookO [], Γc := lookO [], Γs := lookO [], Γm := lookO [], Γo := lookO [], ntmps := f112.ntmps, keep := Vi.look ([], []) [], pins := [] }
theorem plain_Atoms.ok (n : Nat) : CtxOk prog (plain_Atoms.C n) := ⟨types, ftsOk_, ptsOk_, fns_nil, cls_nil, sqs_nil, ems_nil, mixed, ons_nil⟩
theorem plain_Atoms.eq (n : Nat) (x : pdens plain_Atoms.ps) : Vi.run (plain_Atoms.C n) n f112 plain_Atoms.ps plain_Atoms.rs x = some (plain_Atoms x) := by kernel_rfl
theorem plain_Atoms.sound (n : Nat) : SoundE prog 112 (plain_Atoms.e n) :=
  soundE_of_run (C := plain_Atoms.C n) (n := n) (plain_Atoms.ok n) func112 (by kernel_rfl) (by kernel_rfl) (fun x r h => (plain_Atoms.eq n x).trans h)

def plain_Rules_1_c.rs : List Ty := [.bool]
def plain_Rules_1_c.ps : List Ty := [TRule]
def plain_Rules_1_c.caps : List PTy := []
noncomputable def plain_Rules_1_c.e (n : Nat) : Cl := ⟨plain_Rules_1_c.ps, plain_Rules_1_c.caps, plain_Rules_1_c.rs, fun x c => some (plain_Rules_1_c x)⟩
noncomputable def plain_Rules_1_c.C (n : Nat) : Ctx := { tab := tab, fts := fts, pts := pts, Γ := lookO [(112, plain_Atoms.e n)], Γc := lookO [], Γs := lookO [], Γm := lookO [], Γo := lookO [], ntmps := f111.ntmps, keep := Vi.look ([], []) [], pins := [] }
theorem plain_Rules_1_c.ok (n : Nat) : CtxOk prog (plain_Rules_1_c.C n) := ⟨types, ftsOk_, ptsOk_, (fns_cons (plain_Atoms.sound n) fns_nil), cls_nil, sqs_nil, ems_nil, mixed, ons_nil⟩
theorem plain_Rules_1_c.eq (n : Nat) (x : dens plain_Rules_1_c.ps) (c : pdens plain_Rules_1_c.caps) : Vi.runC (plain_Rules_1_c.C n) n f111 plain_Rules_1_c.ps plain_Rules_1_c.caps plain_Rules_1_c.rs x c = some (plain_Rules_1_c x) := by kernel_rfl
theorem plain_Rules_1_c.sound (n : Nat) : SoundC prog 111 (plain_Rules_1_c.e n) :=
  soundC_of_run (C := plain_Rules_1_c.C n) (n := n) (plain_Rules_1_c.ok n) func111 (by kernel_rfl) (by kernel_rfl) (fun x c r h => (plain_Rules_1_c.eq n x c).trans h)

def plain_Rules.rs : List RTy := [.data .bool]
def plain_Rules.ps : List PTy := [.data (.slc TRule), .data (.int .i64)]
noncomputable def plain_Rules.e (n : Nat) : Ent := ⟨plain_Rules.ps, plain_Rules.rs, fun x => plain_Rules n x.1 x.2⟩
noncomputable def plain_Rules.C (n : Nat) : Ctx := { tab := tab, fts := fts, pts := pts, Γ := lookO [(110, slices_ContainsFunc_Rule.e n)], Γc := lookO [(111, plain_Rules_1_c.e n)], Γs := lookO [], Γm := lookO [], Γo := lookO [], ntmps := f65.ntmps, keep := Vi.look ([], []) [], pins := [] }
theorem plain_Rules.ok (n : Nat) : CtxOk prog (plain_Rules.C n) := ⟨types, ftsOk_, ptsOk_, (fns_cons (slices_ContainsFunc_Rule.sound n) fns_nil), (cls_cons (plain_Rules_1_c.sound n) cls_nil), sqs_nil, ems_nil, mixed, ons_nil⟩
theorem plain_Rules.eq (n : Nat) (x : pdens plain_Rules.ps) : Vi.run (plain_Rules.C n) n f65 plain_Rules.ps plain_Rules.rs x = plain_Rules n x.1 x.2 := by kernel_rfl
theorem plain_Rules.sound (n : Nat) : SoundE prog 65 (plain_Rules.e n) :=
  soundE_of_run (C := plain_Rules.C n) (n := n) (plain_Rules.ok n) func65 (by kernel_rfl) (by kernel_rfl) (fun x r h => (plain_Rules.eq n x).trans h)

def law49_light.rs : List RTy := [.data .bool]
def law49_light.ps : List PTy := [.data TFlat, .data (.int .i64)]
noncomputable def law49_light.e (n : Nat) : Ent := ⟨law49_light.ps, law49_light.rs, fun x => law49_light n x.1 x.2⟩
noncomputable def law49_light.C (n : Nat) : Ctx := { tab := tab, fts := fts, pts := pts, Γ := lookO [(65, plain_Rules.e n)], Γc := lookO [], Γs := lookO [], Γm := lookO [], Γo := lookO [], ntmps := f15.ntmps, keep := Vi.look ([], []) [], pins := [] }
theorem law49_light.ok (n : Nat) : CtxOk prog (law49_light.C n) := ⟨types, ftsOk_, ptsOk_, (fns_cons (plain_Rules.sound n) fns_nil), cls_nil, sqs_nil, ems_nil, mixed, ons_nil⟩
theorem law49_light.eq (n : Nat) (x : pdens law49_light.ps) : Vi.run (law49_light.C n) n f15 law49_light.ps law49_light.rs x = law49_light n x.1 x.2 := by kernel_rfl
theorem law49_light.sound (n : Nat) : SoundE prog 15 (law49_light.e n) :=
  soundE_of_run (C := law49_light.C n) (n := n) (law49_light.ok n) func15 (by kernel_rfl) (by kernel_rfl) (fun x r h => (law49_light.eq n x).trans h)
def law49_light.g (n : Nat) (x : pdens (law49_light.τs.map PTy.data)) : Option Bool := law49_light n x.1 x.2
theorem law49_light.soundN (n : Nat) : SoundE prog 15 ⟨law49_light.τs.map PTy.data, [.data .bool], law49_light.g n⟩ := law49_light.sound n

def slice_heap_full.rs : List RTy := [.data .bool]
def slice_heap_full.ps : List PTy := [.cptr THeap]
noncomputable def slice_heap_full.e (n : Nat) : Ent := ⟨slice_heap_full.ps, slice_heap_full.rs, fun x => some (slice_heap_full x)⟩
noncomputable def slice_heap_full.C (n : Nat) : Ctx := { tab := tab, fts := fts, pts := pts, Γ := lookO [], Γc := lookO [], Γs := lookO [], Γm := lookO [], Γo := lookO [], ntmps := f74.ntmps, keep := Vi.look ([], []) [], pins := [] }
theorem slice_heap_full.ok (n : Nat) : CtxOk prog (slice_heap_full.C n) := ⟨types, ftsOk_, ptsOk_, fns_nil, cls_nil, sqs_nil, ems_nil, mixed, ons_nil⟩
theorem slice_heap_full.eq (n : Nat) (x : pdens slice_heap_full.ps) : Vi.run (slice_heap_full.C n) n f74 slice_heap_full.ps slice_heap_full.rs x = some (slice_heap_full x) := by kernel_rfl
theorem slice_heap_full.sound (n : Nat) : SoundE prog 74 (slice_heap_full.e n) :=
  soundE_of_run (C := slice_heap_full.C n) (n := n) (slice_heap_full.ok n) func74 (by kernel_rfl) (by kernel_rfl) (fun x r h => (slice_heap_full.eq n x).trans h)

def slice_heap_less.rs : List RTy := [.data .bool]
def slice_heap_less.τ : Ty := THeap
def slice_heap_less.ps : List PTy := [.data TCube]
noncomputable def slice_heap_less.e (n : Nat) : Em := ⟨slice_heap_less.τ, slice_heap_less.ps, slice_heap_less.rs, fun y x => slice_heap_less n y x⟩
noncomputable def slice_heap_less.C (n : Nat) : Ctx := { tab := tab, fts := fts, pts := pts, Γ := lookO [(74, slice_heap_full.e n), (119, carve_Parts.e n)], Γc := lookO [], Γs := lookO [], Γm := lookO [], Γo := lookO [], ntmps := f75.ntmps, keep := Vi.look ([], []) [(4, ([0, 2, 3, 4, 16, 17, 18], [0, 2, 3, 4])), (100007, ([0, 2, 3, 4, 16, 17, 18], [0, 2, 3, 4]))], pins := [0], fats := [0], cold := [2, 3] }
theorem slice_heap_less.ok (n : Nat) : CtxOk prog (slice_heap_less.C n) := ⟨types, ftsOk_, ptsOk_, (fns_cons (slice_heap_full.sound n) (fns_cons (carve_Parts.sound n) fns_nil)), cls_nil, sqs_nil, ems_nil, mixed, ons_nil⟩
noncomputable def slice_heap_less.code : Code := bodyOf f75
theorem slice_heap_less.l1.stepz (n : Nat) (m0 : Nat) (v16_1 : (List Cube)) (v17_1 : Int) (v18_1 : Int) (p_2 : Heap) (c_2 : Cube) (v4_1 : Bool) : itS (EmR.no _) (slice_heap_less.C n) n (Code.go slice_heap_less.code [1, 1, 1, 0, 1, 0, 0, 1, 1, 0, 0, 1, 1, 0]) [TCube] [(0, .ptr 0 0 THeap []), (2, .ptr 2 0 .unit []), (3, .ptr 3 0 TCube []), (4, .ptr 4 0 .bool []), (16, .dat (.slc TCube) v16_1), (17, .dat (.int .i64) v17_1), (18, .dat (.int .i64) v18_1)] (blockK 2 (blockK 1 (seqK (EmR.no _) (slice_heap_less.C n) n (Code.go slice_heap_less.code [1, 1, 1, 0, 1, 0, 0, 1, 1, 1]) (loopK (EmR.no _) (slice_heap_less.C n) n (Code.go slice_heap_less.code [1, 1, 1, 0, 1, 0, 0]) (blockK 0 (seqK (EmR.no _) (slice_heap_less.C n) n (Code.go slice_heap_less.code [1, 1, 1, 1]) (bodyKM (slice_heap_less.C n) f75 slice_heap_less.τ slice_heap_less.rs))) m0)))) [] [(200000, .tok 0), (0, .box 0 false (.fat THeap p_2 [.fld 2 0] (.tip 200000 0) TCube p_2.1)), (2, .box 0 false (.ptr 0 0 THeap [])), (3, .box 0 true (.dat TCube c_2)), (4, .box 0 false (.dat .bool v4_1))] = slice_heap_less.z1 n (fun (v16' : (List Cube)) (v17' : Int) (v18' : Int) (p_1' : Heap) (c_1' : Cube) (v4' : Bool) => it (EmR.no _) (slice_heap_less.C n) n (Code.go slice_heap_less.code [1, 1, 1, 0, 1, 0, 0]) (blockK 0 (seqK (EmR.no _) (slice_heap_less.C n) n (Code.go slice_heap_less.code [1, 1, 1, 1]) (bodyKM (slice_heap_less.C n) f75 slice_heap_less.τ slice_heap_less.rs))) m0 ⟨[(0, .ptr 0 0 THeap []), (2, .ptr 2 0 .unit []), (3, .ptr 3 0 TCube []), (4, .ptr 4 0 .bool []), (16, .dat (.slc TCube) (v16')), (17, .dat (.int .i64) (v17')), (18, .dat (.int .i64) (v18'))], [(200000, .tok 0), (0, .box 0 false (.fat THeap (p_1') [.fld 2 0] (.tip 200000 0) TCube (p_1'.1))), (2, .box 0 false (.ptr 0 0 THeap [])), (3, .box 0 true (.dat TCube (c_1'))), (4, .box 0 false (.dat .bool (v4')))]⟩) v16_1 v17_1 v18_1 p_2 c_2 v4_1 := by kernel_rfl
theorem slice_heap_less.l1.step (n : Nat) (m0 : Nat) (xs : (List Cube)) (v16_1 : (List Cube)) (v17_1 : Int) (v18_1 : Int) (p_2 : Heap) (c_2 : Cube) (v4_1 : Bool) (x : Cube) : itS (EmR.no _) (slice_heap_less.C n) n (Code.go slice_heap_less.code [1, 1, 1, 0, 1, 0, 0, 1, 1, 0, 0, 1, 1, 0]) [TCube] [(0, .ptr 0 0 THeap []), (2, .ptr 2 0 .unit []), (3, .ptr 3 0 TCube []), (4, .ptr 4 0 .bool []), (16, .dat (.slc TCube) v16_1), (17, .dat (.int .i64) v17_1), (18, .dat (.int .i64) v18_1)] (blockK 2 (blockK 1 (seqK (EmR.no _) (slice_heap_less.C n) n (Code.go slice_heap_less.code [1, 1, 1, 0, 1, 0, 0, 1, 1, 1]) (loopK (EmR.no _) (slice_heap_less.C n) n (Code.go slice_heap_less.code [1, 1, 1, 0, 1, 0, 0]) (blockK 0 (seqK (EmR.no _) (slice_heap_less.C n) n (Code.go slice_heap_less.code [1, 1, 1, 1]) (bodyKM (slice_heap_less.C n) f75 slice_heap_less.τ slice_heap_less.rs))) m0)))) (x :: xs) [(200000, .tok 0), (0, .box 0 false (.fat THeap p_2 [.fld 2 0] (.tip 200000 0) TCube p_2.1)), (2, .box 0 false (.ptr 0 0 THeap [])), (3, .box 0 true (.dat TCube c_2)), (4, .box 0 false (.dat .bool v4_1))] = slice_heap_less.s1 n (fun (p_2' : Heap) => itS (EmR.no _) (slice_heap_less.C n) n (Code.go slice_heap_less.code [1, 1, 1, 0, 1, 0, 0, 1, 1, 0, 0, 1, 1, 0]) [TCube] [(0, .ptr 0 0 THeap []), (2, .ptr 2 0 .unit []), (3, .ptr 3 0 TCube []), (4, .ptr 4 0 .bool []), (16, .dat (.slc TCube) v16_1), (17, .dat (.int .i64) v17_1), (18, .dat (.int .i64) v18_1)] (blockK 2 (blockK 1 (seqK (EmR.no _) (slice_heap_less.C n) n (Code.go slice_heap_less.code [1, 1, 1, 0, 1, 0, 0, 1, 1, 1]) (loopK (EmR.no _) (slice_heap_less.C n) n (Code.go slice_heap_less.code [1, 1, 1, 0, 1, 0, 0]) (blockK 0 (seqK (EmR.no _) (slice_heap_less.C n) n (Code.go slice_heap_less.code [1, 1, 1, 1]) (bodyKM (slice_heap_less.C n) f75 slice_heap_less.τ slice_heap_less.rs))) m0)))) xs [(200000, .tok 0), (0, .box 0 false (.fat THeap (p_2') [.fld 2 0] (.tip 200000 0) TCube (p_2'.1))), (2, .box 0 false (.ptr 0 0 THeap [])), (3, .box 0 true (.dat TCube c_2)), (4, .box 0 false (.dat .bool v4_1))]) v16_1 v17_1 v18_1 p_2 c_2 v4_1 x := by kernel_rfl
theorem slice_heap_less.l1.eq (n : Nat) (m0 : Nat) (v16_1 : (List Cube)) (v17_1 : Int) (v18_1 : Int) (c_2 : Cube) (v4_1 : Bool) : ∀ (xs : (List Cube)) (p_2 : Heap), itS (EmR.no _) (slice_heap_less.C n) n (Code.go slice_heap_less.code [1, 1, 1, 0, 1, 0, 0, 1, 1, 0, 0, 1, 1, 0]) [TCube] [(0, .ptr 0 0 THeap []), (2, .ptr 2 0 .unit []), (3, .ptr 3 0 TCube []), (4, .ptr 4 0 .bool []), (16, .dat (.slc TCube) v16_1), (17, .dat (.int .i64) v17_1), (18, .dat (.int .i64) v18_1)] (blockK 2 (blockK 1 (seqK (EmR.no _) (slice_heap_less.C n) n (Code.go slice_heap_less.code [1, 1, 1, 0, 1, 0, 0, 1, 1, 1]) (loopK (EmR.no _) (slice_heap_less.C n) n (Code.go slice_heap_less.code [1, 1, 1, 0, 1, 0, 0]) (blockK 0 (seqK (EmR.no _) (slice_heap_less.C n) n (Code.go slice_heap_less.code [1, 1, 1, 1]) (bodyKM (slice_heap_less.C n) f75 slice_heap_less.τ slice_heap_less.rs))) m0)))) xs [(200000, .tok 0), (0, .box 0 false (.fat THeap p_2 [.fld 2 0] (.tip 200000 0) TCube p_2.1)), (2, .box 0 false (.ptr 0 0 THeap [])), (3, .box 0 true (.dat TCube c_2)), (4, .box 0 false (.dat .bool v4_1))] = slice_heap_less.l1 n v16_1 v17_1 v18_1 c_2 v4_1 (fun (v16'' : (List Cube)) (v17'' : Int) (v18'' : Int) (p_1'' : Heap) (c_1'' : Cube) (v4'' : Bool) => it (EmR.no _) (slice_heap_less.C n) n (Code.go slice_heap_less.code [1, 1, 1, 0, 1, 0, 0]) (blockK 0 (seqK (EmR.no _) (slice_heap_less.C n) n (Code.go slice_heap_less.code [1, 1, 1, 1]) (bodyKM (slice_heap_less.C n) f75 slice_heap_less.τ slice_heap_less.rs))) m0 ⟨[(0, .ptr 0 0 THeap []), (2, .ptr 2 0 .unit []), (3, .ptr 3 0 TCube []), (4, .ptr 4 0 .bool []), (16, .dat (.slc TCube) (v16'')), (17, .dat (.int .i64) (v17'')), (18, .dat (.int .i64) (v18''))], [(200000, .tok 0), (0, .box 0 false (.fat THeap (p_1'') [.fld 2 0] (.tip 200000 0) TCube (p_1''.1))), (2, .box 0 false (.ptr 0 0 THeap [])), (3, .box 0 true (.dat TCube (c_1''))), (4, .box 0 false (.dat .bool (v4'')))]⟩) xs p_2
  | [], p_2 => (slice_heap_less.l1.stepz n m0 v16_1 v17_1 v18_1 p_2 c_2 v4_1).trans (congr1 (fun k0 => slice_heap_less.z1 n k0 v16_1 v17_1 v18_1 p_2 c_2 v4_1) rfl)
  | x :: xs, p_2 => (slice_heap_less.l1.step n m0 xs v16_1 v17_1 v18_1 p_2 c_2 v4_1 x).trans (congr1 (fun k1 => slice_heap_less.s1 n k1 v16_1 v17_1 v18_1 p_2 c_2 v4_1 x) (funext fun p_2' => slice_heap_less.l1.eq n m0 v16_1 v17_1 v18_1 c_2 v4_1 xs p_2'))
theorem slice_heap_less.l0.step (n : Nat) (m0 : Nat) (v16 : (List Cube)) (v17 : Int) (v18 : Int) (p_1 : Heap) (c_1 : Cube) (v4 : Bool) : it (EmR.no _) (slice_heap_less.C n) n (Code.go slice_heap_less.code [1, 1, 1, 0, 1, 0, 0]) (blockK 0 (seqK (EmR.no _) (slice_heap_less.C n) n (Code.go slice_heap_less.code [1, 1, 1, 1]) (bodyKM (slice_heap_less.C n) f75 slice_heap_less.τ slice_heap_less.rs))) (m0 + 1) ⟨[(0, .ptr 0 0 THeap []), (2, .ptr 2 0 .unit []), (3, .ptr 3 0 TCube []), (4, .ptr 4 0 .bool []), (16, .dat (.slc TCube) v16), (17, .dat (.int .i64) v17), (18, .dat (.int .i64) v18)], [(200000, .tok 0), (0, .box 0 false (.fat THeap p_1 [.fld 2 0] (.tip 200000 0) TCube p_1.1)), (2, .box 0 false (.ptr 0 0 THeap [])), (3, .box 0 true (.dat TCube c_1)), (4, .box 0 false (.dat .bool v4))]⟩ = slice_heap_less.s0 n (fun (xs' : (List Cube)) (v16_1' : (List Cube)) (v17_1' : Int) (v18_1' : Int) (p_2' : Heap) (c_2' : Cube) (v4_1' : Bool) => itS (EmR.no _) (slice_heap_less.C n) n (Code.go slice_heap_less.code [1, 1, 1, 0, 1, 0, 0, 1, 1, 0, 0, 1, 1, 0]) [TCube] [(0, .ptr 0 0 THeap []), (2, .ptr 2 0 .unit []), (3, .ptr 3 0 TCube []), (4, .ptr 4 0 .bool []), (16, .dat (.slc TCube) (v16_1')), (17, .dat (.int .i64) (v17_1')), (18, .dat (.int .i64) (v18_1'))] (blockK 2 (blockK 1 (seqK (EmR.no _) (slice_heap_less.C n) n (Code.go slice_heap_less.code [1, 1, 1, 0, 1, 0, 0, 1, 1, 1]) (loopK (EmR.no _) (slice_heap_less.C n) n (Code.go slice_heap_less.code [1, 1, 1, 0, 1, 0, 0]) (blockK 0 (seqK (EmR.no _) (slice_heap_less.C n) n (Code.go slice_heap_less.code [1, 1, 1, 1]) (bodyKM (slice_heap_less.C n) f75 slice_heap_less.τ slice_heap_less.rs))) m0)))) xs' [(200000, .tok 0), (0, .box 0 false (.fat THeap (p_2') [.fld 2 0] (.tip 200000 0) TCube (p_2'.1))), (2, .box 0 false (.ptr 0 0 THeap [])), (3, .box 0 true (.dat TCube (c_2'))), (4, .box 0 false (.dat .bool (v4_1')))]) v16 v17 v18 p_1 c_1 v4 := by kernel_rfl
theorem slice_heap_less.l0.eq (n : Nat) (v16 : (List Cube)) (v17 : Int) (c_1 : Cube) (v4 : Bool) : ∀ (m0 : Nat) (v18 : Int) (p_1 : Heap), it (EmR.no _) (slice_heap_less.C n) n (Code.go slice_heap_less.code [1, 1, 1, 0, 1, 0, 0]) (blockK 0 (seqK (EmR.no _) (slice_heap_less.C n) n (Code.go slice_heap_less.code [1, 1, 1, 1]) (bodyKM (slice_heap_less.C n) f75 slice_heap_less.τ slice_heap_less.rs))) m0 ⟨[(0, .ptr 0 0 THeap []), (2, .ptr 2 0 .unit []), (3, .ptr 3 0 TCube []), (4, .ptr 4 0 .bool []), (16, .dat (.slc TCube) v16), (17, .dat (.int .i64) v17), (18, .dat (.int .i64) v18)], [(200000, .tok 0), (0, .box 0 false (.fat THeap p_1 [.fld 2 0] (.tip 200000 0) TCube p_1.1)), (2, .box 0 false (.ptr 0 0 THeap [])), (3, .box 0 true (.dat TCube c_1)), (4, .box 0 false (.dat .bool v4))]⟩ = slice_heap_less.l0 n v16 v17 c_1 v4 m0 v18 p_1
  | 0, _, _ => rfl
  | m0 + 1, v18, p_1 =>
    (slice_heap_less.l0.step n m0 v16 v17 v18 p_1 c_1 v4).trans (congr1 (fun k1 => slice_heap_less.s0 n k1 v16 v17 v18 p_1 c_1 v4) (funext fun xs' => funext fun v16_1' => funext fun v17_1' => funext fun v18_1' => funext fun p_2' => funext fun c_2' => funext fun v4_1' => (slice_heap_less.l1.eq n m0 v16_1' v17_1' v18_1' c_2' v4_1' xs' p_2').trans (congr1 (fun kk => slice_heap_less.l1 n v16_1' v17_1' v18_1' c_2' v4_1' kk xs' p_2') (funext fun v16'' => funext fun v17'' => funext fun v18'' => funext fun p_1'' => funext fun c_1'' => funext fun v4'' => slice_heap_less.l0.eq n v16'' v17'' c_1'' v4'' m0 v18'' p_1''))))
theorem slice_heap_less.run0 (n : Nat) (y : Ty.den slice_heap_less.τ) (x : pdens slice_heap_less.ps) : Vi.runM (slice_heap_less.C n) n f75 slice_heap_less.τ slice_heap_less.ps slice_heap_less.rs y x = slice_heap_less.s n (fun (v16' : (List Cube)) (v17' : Int) (v18' : Int) (p_1' : Heap) (c_1' : Cube) (v4' : Bool) => it (EmR.no _) (slice_heap_less.C n) n (Code.go slice_heap_less.code [1, 1, 1, 0, 1, 0, 0]) (blockK 0 (seqK (EmR.no _) (slice_heap_less.C n) n (Code.go slice_heap_less.code [1, 1, 1, 1]) (bodyKM (slice_heap_less.C n) f75 slice_heap_less.τ slice_heap_less.rs))) n ⟨[(0, .ptr 0 0 THeap []), (2, .ptr 2 0 .unit []), (3, .ptr 3 0 TCube []), (4, .ptr 4 0 .bool []), (16, .dat (.slc TCube) (v16')), (17, .dat (.int .i64) (v17')), (18, .dat (.int .i64) (v18'))], [(200000, .tok 0), (0, .box 0 false (.fat THeap (p_1') [.fld 2 0] (.tip 200000 0) TCube (p_1'.1))), (2, .box 0 false (.ptr 0 0 THeap [])), (3, .box 0 true (.dat TCube (c_1'))), (4, .box 0 false (.dat .bool (v4')))]⟩) y x := by kernel_rfl
theorem slice_heap_less.eq (n : Nat) (y : Ty.den slice_heap_less.τ) (x : pdens slice_heap_less.ps) : Vi.runM (slice_heap_less.C n) n f75 slice_heap_less.τ slice_heap_less.ps slice_heap_less.rs y x = slice_heap_less n y x :=
  (slice_heap_less.run0 n y x).trans (congr1 (fun k0 => slice_heap_less.s n k0 y x) (funext fun v16' => funext fun v17' => funext fun v18' => funext fun p_1' => funext fun c_1' => funext fun v4' => slice_heap_less.l0.eq n v16' v17' c_1' v4' n v18' p_1'))
theorem slice_heap_less.sound (n : Nat) : SoundM prog 75 (slice_heap_less.e n) :=
  soundM_of_run (C := slice_heap_less.C n) (n := n) (slice_heap_less.ok n) func75 (by kernel_rfl) (by kernel_rfl) (fun y x r h => (slice_heap_less.eq n y x).trans h)

def slice_Rule.rs : List RTy := [.data (.slc TCube), .data (.int .i64)]
def slice_Rule.ps : List PTy := [.data TFlat, .data (.int .i64), .data (.int .i64)]
noncomputable def slice_Rule.e (n : Nat) : Ent := ⟨slice_Rule.ps, slice_Rule.rs, fun x => slice_Rule n x.1 x.2.1 x.2.2⟩
noncomputable def slice_Rule.C (n : Nat) : Ctx := { tab := tab, fts := fts, pts := pts, Γ := lookO [(73, cube_Clean.e n), (74, slice_heap_full.e n)], Γc := lookO [], Γs := lookO [], Γm := lookO [(75, slice_heap_less.e n)], Γo := lookO [], ntmps := f25.ntmps, keep := Vi.look ([], []) [(7, ([8, 36, 37, 38], [30]))], pins := [] }
theorem slice_Rule.ok (n : Nat) : CtxOk prog (slice_Rule.C n) := ⟨types, ftsOk_, ptsOk_, (fns_cons (cube_Clean.sound n) (fns_cons (slice_heap_full.sound n) fns_nil)), cls_nil, sqs_nil, (ems_cons (slice_heap_less.sound n) ems_nil), mixed, ons_nil⟩
noncomputable def slice_Rule.code : Code := bodyOf f25
theorem slice_Rule.l0.step (n : Nat) (m0 : Nat) (v36 : (List Rule)) (v37 : Int) (v38 : Int) (v30 : Heap) : it (EmR.no _) (slice_Rule.C n) n (Code.go slice_Rule.code [1, 1, 1, 1, 0, 1, 0, 0]) (blockK 0 (seqK (EmR.no _) (slice_Rule.C n) n (Code.go slice_Rule.code [1, 1, 1, 1, 1]) (bodyK (slice_Rule.C n) f25 slice_Rule.rs))) (m0 + 1) ⟨[(8, .ptr 30 0 THeap []), (36, .dat (.slc TRule) v36), (37, .dat (.int .i64) v37), (38, .dat (.int .i64) v38)], [(30, .box 0 false (.dat THeap v30))]⟩ = slice_Rule.s0 n (fun (v38' : Int) (v30' : Heap) => it (EmR.no _) (slice_Rule.C n) n (Code.go slice_Rule.code [1, 1, 1, 1, 0, 1, 0, 0]) (blockK 0 (seqK (EmR.no _) (slice_Rule.C n) n (Code.go slice_Rule.code [1, 1, 1, 1, 1]) (bodyK (slice_Rule.C n) f25 slice_Rule.rs))) m0 ⟨[(8, .ptr 30 0 THeap []), (36, .dat (.slc TRule) v36), (37, .dat (.int .i64) v37), (38, .dat (.int .i64) (v38'))], [(30, .box 0 false (.dat THeap (v30')))]⟩) v36 v37 v38 v30 := by kernel_rfl
theorem slice_Rule.l0.eq (n : Nat) (v36 : (List Rule)) (v37 : Int) : ∀ (m0 : Nat) (v38 : Int) (v30 : Heap), it (EmR.no _) (slice_Rule.C n) n (Code.go slice_Rule.code [1, 1, 1, 1, 0, 1, 0, 0]) (blockK 0 (seqK (EmR.no _) (slice_Rule.C n) n (Code.go slice_Rule.code [1, 1, 1, 1, 1]) (bodyK (slice_Rule.C n) f25 slice_Rule.rs))) m0 ⟨[(8, .ptr 30 0 THeap []), (36, .dat (.slc TRule) v36), (37, .dat (.int .i64) v37), (38, .dat (.int .i64) v38)], [(30, .box 0 false (.dat THeap v30))]⟩ = slice_Rule.l0 n v36 v37 m0 v38 v30
  | 0, _, _ => rfl
  | m0 + 1, v38, v30 =>
    (slice_Rule.l0.step n m0 v36 v37 v38 v30).trans (congr1 (fun k0 => slice_Rule.s0 n k0 v36 v37 v38 v30) (funext fun v38' => funext fun v30' => slice_Rule.l0.eq n v36 v37 m0 v38' v30'))
theorem slice_Rule.run0 (n : Nat) (x : pdens slice_Rule.ps) : Vi.run (slice_Rule.C n) n f25 slice_Rule.ps slice_Rule.rs x = slice_Rule.s n (fun (v36' : (List Rule)) (v37' : Int) (v38' : Int) (v30' : Heap) => it (EmR.no _) (slice_Rule.C n) n (Code.go slice_Rule.code [1, 1, 1, 1, 0, 1, 0, 0]) (blockK 0 (seqK (EmR.no _) (slice_Rule.C n) n (Code.go slice_Rule.code [1, 1, 1, 1, 1]) (bodyK (slice_Rule.C n) f25 slice_Rule.rs))) n ⟨[(8, .ptr 30 0 THeap []), (36, .dat (.slc TRule) (v36')), (37, .dat (.int .i64) (v37')), (38, .dat (.int .i64) (v38'))], [(30, .box 0 false (.dat THeap (v30')))]⟩) x.1 x.2.1 x.2.2 := by kernel_rfl
theorem slice_Rule.eq (n : Nat) (x : pdens slice_Rule.ps) : Vi.run (slice_Rule.C n) n f25 slice_Rule.ps slice_Rule.rs x = slice_Rule n x.1 x.2.1 x.2.2 :=
  (slice_Rule.run0 n x).trans (congr1 (fun k0 => slice_Rule.s n k0 x.1 x.2.1 x.2.2) (funext fun v36' => funext fun v37' => funext fun v38' => funext fun v30' => slice_Rule.l0.eq n v36' v37' n v38' v30'))
theorem slice_Rule.sound (n : Nat) : SoundE prog 25 (slice_Rule.e n) :=
  soundE_of_run (C := slice_Rule.C n) (n := n) (slice_Rule.ok n) func25 (by kernel_rfl) (by kernel_rfl) (fun x r h => (slice_Rule.eq n x).trans h)

def slice_All.rs : List RTy := [.fresh (.slc TCube), .data (.int .i64)]
def slice_All.ps : List PTy := [.data TFlat, .data (.int .i64)]
noncomputable def slice_All.e (n : Nat) : Ent := ⟨slice_All.ps, slice_All.rs, fun x => slice_All n x.1 x.2⟩
noncomputable def slice_All.C (n : Nat) : Ctx := { tab := tab, fts := fts, pts := pts, Γ := lookO [(25, slice_Rule.e n)], Γc := lookO [], Γs := lookO [], Γm := lookO [], Γo := lookO [], ntmps := f17.ntmps, keep := Vi.look ([], []) [(3, ([1, 2, 6, 12, 13], [2]))], pins := [] }
theorem slice_All.ok (n : Nat) : CtxOk prog (slice_All.C n) := ⟨types, ftsOk_, ptsOk_, (fns_cons (slice_Rule.sound n) fns_nil), cls_nil, sqs_nil, ems_nil, mixed, ons_nil⟩
noncomputable def slice_All.code : Code := bodyOf f17
theorem slice_All.l0.step (n : Nat) (m0 : Nat) (most_1 : Int) (out : (List (List Cube))) (v12 : Int) (v13 : Int) (f_1 : Flat) : it (EmR.no _) (slice_All.C n) n (Code.go slice_All.code [1, 1, 0, 1, 0, 0]) (blockK 0 (seqK (EmR.no _) (slice_All.C n) n (Code.go slice_All.code [1, 1, 1]) (bodyK (slice_All.C n) f17 slice_All.rs))) (m0 + 1) ⟨[(1, .dat (.int .i64) most_1), (2, .ptr 2 0 TFlat []), (6, .lst (.tip 100006 0) (.slc TCube) out), (12, .dat (.int .i64) v12), (13, .dat (.int .i64) v13)], [(100006, .tok 0), (2, .box 0 false (.dat TFlat f_1))]⟩ = slice_All.s0 n (fun (out' : (List (List Cube))) (v13' : Int) => it (EmR.no _) (slice_All.C n) n (Code.go slice_All.code [1, 1, 0, 1, 0, 0]) (blockK 0 (seqK (EmR.no _) (slice_All.C n) n (Code.go slice_All.code [1, 1, 1]) (bodyK (slice_All.C n) f17 slice_All.rs))) m0 ⟨[(1, .dat (.int .i64) most_1), (2, .ptr 2 0 TFlat []), (6, .lst (.tip 100006 0) (.slc TCube) (out')), (12, .dat (.int .i64) v12), (13, .dat (.int .i64) (v13'))], [(100006, .tok 0), (2, .box 0 false (.dat TFlat f_1))]⟩) most_1 out v12 v13 f_1 := by kernel_rfl
theorem slice_All.l0.eq (n : Nat) (most_1 : Int) (v12 : Int) (f_1 : Flat) : ∀ (m0 : Nat) (out : (List (List Cube))) (v13 : Int), it (EmR.no _) (slice_All.C n) n (Code.go slice_All.code [1, 1, 0, 1, 0, 0]) (blockK 0 (seqK (EmR.no _) (slice_All.C n) n (Code.go slice_All.code [1, 1, 1]) (bodyK (slice_All.C n) f17 slice_All.rs))) m0 ⟨[(1, .dat (.int .i64) most_1), (2, .ptr 2 0 TFlat []), (6, .lst (.tip 100006 0) (.slc TCube) out), (12, .dat (.int .i64) v12), (13, .dat (.int .i64) v13)], [(100006, .tok 0), (2, .box 0 false (.dat TFlat f_1))]⟩ = slice_All.l0 n most_1 v12 f_1 m0 out v13
  | 0, _, _ => rfl
  | m0 + 1, out, v13 =>
    (slice_All.l0.step n m0 most_1 out v12 v13 f_1).trans (congr1 (fun k0 => slice_All.s0 n k0 most_1 out v12 v13 f_1) (funext fun out' => funext fun v13' => slice_All.l0.eq n most_1 v12 f_1 m0 out' v13'))
theorem slice_All.run0 (n : Nat) (x : pdens slice_All.ps) : Vi.run (slice_All.C n) n f17 slice_All.ps slice_All.rs x = slice_All.s n (fun (most_1' : Int) (out' : (List (List Cube))) (v12' : Int) (v13' : Int) (f_1' : Flat) => it (EmR.no _) (slice_All.C n) n (Code.go slice_All.code [1, 1, 0, 1, 0, 0]) (blockK 0 (seqK (EmR.no _) (slice_All.C n) n (Code.go slice_All.code [1, 1, 1]) (bodyK (slice_All.C n) f17 slice_All.rs))) n ⟨[(1, .dat (.int .i64) (most_1')), (2, .ptr 2 0 TFlat []), (6, .lst (.tip 100006 0) (.slc TCube) (out')), (12, .dat (.int .i64) (v12')), (13, .dat (.int .i64) (v13'))], [(100006, .tok 0), (2, .box 0 false (.dat TFlat (f_1')))]⟩) x.1 x.2 := by kernel_rfl
theorem slice_All.eq (n : Nat) (x : pdens slice_All.ps) : Vi.run (slice_All.C n) n f17 slice_All.ps slice_All.rs x = slice_All n x.1 x.2 :=
  (slice_All.run0 n x).trans (congr1 (fun k0 => slice_All.s n k0 x.1 x.2) (funext fun most_1' => funext fun out' => funext fun v12' => funext fun v13' => funext fun f_1' => slice_All.l0.eq n most_1' v12' f_1' n out' v13'))
theorem slice_All.sound (n : Nat) : SoundE prog 17 (slice_All.e n) :=
  soundE_of_run (C := slice_All.C n) (n := n) (slice_All.ok n) func17 (by kernel_rfl) (by kernel_rfl) (fun x r h => (slice_All.eq n x).trans h)

def slice_Place_1.rs : List Ty := [.bool]
def slice_Place_1.ps : List Ty := [TCube]
def slice_Place_1.caps : List PTy := [.cptr THeader]
noncomputable def slice_Place_1.e (n : Nat) : Cl := ⟨slice_Place_1.ps, slice_Place_1.caps, slice_Place_1.rs, fun x c => slice_Place_1 n x c⟩
noncomputable def slice_Place_1.C (n : Nat) : Ctx := { tab := tab, fts := fts, pts := pts, Γ := lookO [(19, cube_Has.e n)], Γc := lookO [], Γs := lookO [], Γm := lookO [], Γo := lookO [], ntmps := f79.ntmps, keep := Vi.look ([], []) [], pins := [], cold := [2] }
theorem slice_Place_1.ok (n : Nat) : CtxOk prog (slice_Place_1.C n) := ⟨types, ftsOk_, ptsOk_, (fns_cons (cube_Has.sound n) fns_nil), cls_nil, sqs_nil, ems_nil, mixed, ons_nil⟩
theorem slice_Place_1.eq (n : Nat) (x : dens slice_Place_1.ps) (c : pdens slice_Place_1.caps) : Vi.runC (slice_Place_1.C n) n f79 slice_Place_1.ps slice_Place_1.caps slice_Place_1.rs x c = slice_Place_1 n x c := by kernel_rfl
theorem slice_Place_1.sound (n : Nat) : SoundC prog 79 (slice_Place_1.e n) :=
  soundC_of_run (C := slice_Place_1.C n) (n := n) (slice_Place_1.ok n) func79 (by kernel_rfl) (by kernel_rfl) (fun x c r h => (slice_Place_1.eq n x c).trans h)

def slice_Place.rs : List RTy := [.data (.int .i64), .data (.int .i64), .data .bool]
def slice_Place.ps : List PTy := [.data (.slc (.slc TCube)), .data THeader]
noncomputable def slice_Place.e (n : Nat) : Ent := ⟨slice_Place.ps, slice_Place.rs, fun x => slice_Place n x.1 x.2⟩
noncomputable def slice_Place.C (n : Nat) : Ctx := { tab := tab, fts := fts, pts := pts, Γ := lookO [(78, slices_IndexFunc_Cube.e n)], Γc := lookO [(79, slice_Place_1.e n)], Γs := lookO [], Γm := lookO [], Γo := lookO [], ntmps := f31.ntmps, keep := Vi.look ([], []) [(2, ([3, 10, 11, 12], [3]))], pins := [], cold := [3] }
theorem slice_Place.ok (n : Nat) : CtxOk prog (slice_Place.C n) := ⟨types, ftsOk_, ptsOk_, (fns_cons (slices_IndexFunc_Cube.sound n) fns_nil), (cls_cons (slice_Place_1.sound n) cls_nil), sqs_nil, ems_nil, mixed, ons_nil⟩
noncomputable def slice_Place.code : Code := bodyOf f31
theorem slice_Place.l0.step (n : Nat) (m0 : Nat) (v10 : (List (List Cube))) (v11 : Int) (v12 : Int) (h_1 : Header) : it (EmR.no _) (slice_Place.C n) n (Code.go slice_Place.code [1, 0, 1, 0, 1, 0, 0]) (blockK 0 (seqK (EmR.no _) (slice_Place.C n) n (Code.go slice_Place.code [1, 0, 1, 1]) (bodyK (slice_Place.C n) f31 slice_Place.rs))) (m0 + 1) ⟨[(3, .ptr 3 0 THeader []), (10, .dat (.slc (.slc TCube)) v10), (11, .dat (.int .i64) v11), (12, .dat (.int .i64) v12)], [(3, .box 0 true (.dat THeader h_1))]⟩ = slice_Place.s0 n (fun (v12' : Int) => it (EmR.no _) (slice_Place.C n) n (Code.go slice_Place.code [1, 0, 1, 0, 1, 0, 0]) (blockK 0 (seqK (EmR.no _) (slice_Place.C n) n (Code.go slice_Place.code [1, 0, 1, 1]) (bodyK (slice_Place.C n) f31 slice_Place.rs))) m0 ⟨[(3, .ptr 3 0 THeader []), (10, .dat (.slc (.slc TCube)) v10), (11, .dat (.int .i64) v11), (12, .dat (.int .i64) (v12'))], [(3, .box 0 true (.dat THeader h_1))]⟩) v10 v11 v12 h_1 := by kernel_rfl
theorem slice_Place.l0.eq (n : Nat) (v10 : (List (List Cube))) (v11 : Int) (h_1 : Header) : ∀ (m0 : Nat) (v12 : Int), it (EmR.no _) (slice_Place.C n) n (Code.go slice_Place.code [1, 0, 1, 0, 1, 0, 0]) (blockK 0 (seqK (EmR.no _) (slice_Place.C n) n (Code.go slice_Place.code [1, 0, 1, 1]) (bodyK (slice_Place.C n) f31 slice_Place.rs))) m0 ⟨[(3, .ptr 3 0 THeader []), (10, .dat (.slc (.slc TCube)) v10), (11, .dat (.int .i64) v11), (12, .dat (.int .i64) v12)], [(3, .box 0 true (.dat THeader h_1))]⟩ = slice_Place.l0 n v10 v11 h_1 m0 v12
  | 0, _ => rfl
  | m0 + 1, v12 =>
    (slice_Place.l0.step n m0 v10 v11 v12 h_1).trans (congr1 (fun k0 => slice_Place.s0 n k0 v10 v11 v12 h_1) (funext fun v12' => slice_Place.l0.eq n v10 v11 h_1 m0 v12'))
theorem slice_Place.run0 (n : Nat) (x : pdens slice_Place.ps) : Vi.run (slice_Place.C n) n f31 slice_Place.ps slice_Place.rs x = slice_Place.s n (fun (v10' : (List (List Cube))) (v11' : Int) (v12' : Int) (h_1' : Header) => it (EmR.no _) (slice_Place.C n) n (Code.go slice_Place.code [1, 0, 1, 0, 1, 0, 0]) (blockK 0 (seqK (EmR.no _) (slice_Place.C n) n (Code.go slice_Place.code [1, 0, 1, 1]) (bodyK (slice_Place.C n) f31 slice_Place.rs))) n ⟨[(3, .ptr 3 0 THeader []), (10, .dat (.slc (.slc TCube)) (v10')), (11, .dat (.int .i64) (v11')), (12, .dat (.int .i64) (v12'))], [(3, .box 0 true (.dat THeader (h_1')))]⟩) x.1 x.2 := by kernel_rfl
theorem slice_Place.eq (n : Nat) (x : pdens slice_Place.ps) : Vi.run (slice_Place.C n) n f31 slice_Place.ps slice_Place.rs x = slice_Place n x.1 x.2 :=
  (slice_Place.run0 n x).trans (congr1 (fun k0 => slice_Place.s n k0 x.1 x.2) (funext fun v10' => funext fun v11' => funext fun v12' => funext fun h_1' => slice_Place.l0.eq n v10' v11' h_1' n v12'))
theorem slice_Place.sound (n : Nat) : SoundE prog 31 (slice_Place.e n) :=
  soundE_of_run (C := slice_Place.C n) (n := n) (slice_Place.ok n) func31 (by kernel_rfl) (by kernel_rfl) (fun x r h => (slice_Place.eq n x).trans h)

def law49_awake.rs : List RTy := [.data .bool]
def law49_awake.ps : List PTy := []
noncomputable def law49_awake.e (n : Nat) : Ent := ⟨law49_awake.ps, law49_awake.rs, fun x => law49_awake n⟩
noncomputable def law49_awake.C (n : Nat) : Ctx := { tab := tab, fts := fts, pts := pts, Γ := lookO [(17, slice_All.e n), (25, slice_Rule.e n), (31, slice_Place.e n)], Γc := lookO [], Γs := lookO [], Γm := lookO [], Γo := lookO [], ntmps := f16.ntmps, keep := Vi.look ([], []) [], pins := [] }
theorem law49_awake.ok (n : Nat) : CtxOk prog (law49_awake.C n) := ⟨types, ftsOk_, ptsOk_, (fns_cons (slice_All.sound n) (fns_cons (slice_Rule.sound n) (fns_cons (slice_Place.sound n) fns_nil))), cls_nil, sqs_nil, ems_nil, mixed, ons_nil⟩
theorem law49_awake.eq (n : Nat) (x : pdens law49_awake.ps) : Vi.run (law49_awake.C n) n f16 law49_awake.ps law49_awake.rs x = law49_awake n := by kernel_rfl
theorem law49_awake.sound (n : Nat) : SoundE prog 16 (law49_awake.e n) :=
  soundE_of_run (C := law49_awake.C n) (n := n) (law49_awake.ok n) func16 (by kernel_rfl) (by kernel_rfl) (fun x r h => (law49_awake.eq n x).trans h)

def ref49_Less.rs : List RTy := [.fresh TCube]
def ref49_Less.ps : List PTy := [.data (.slc TCube), .data TCube]
noncomputable def ref49_Less.e (n : Nat) : Ent := ⟨ref49_Less.ps, ref49_Less.rs, fun x => ref49_Less n x.1 x.2⟩
noncomputable def ref49_Less.C (n : Nat) : Ctx := { tab := tab, fts := fts, pts := pts, Γ := lookO [(122, ref07_List.e n)], Γc := lookO [], Γs := lookO [], Γm := lookO [], Γo := lookO [], ntmps := f77.ntmps, keep := Vi.look ([], []) [(3, ([0, 3, 5, 6], [3]))], pins := [], cold := [3] }
theorem ref49_Less.ok (n : Nat) : CtxOk prog (ref49_Less.C n) := ⟨types, ftsOk_, ptsOk_, (fns_cons (ref07_List.sound n) fns_nil), cls_nil, sqs_nil, ems_nil, mixed, ons_nil⟩
noncomputable def ref49_Less.code : Code := bodyOf f77
theorem ref49_Less.l0.step (n : Nat) (m0 : Nat) (l_1 : (List Cube)) (out : (List Cube)) (i : Int) (c_1 : Cube) : it (EmR.no _) (ref49_Less.C n) n (Code.go ref49_Less.code [1, 1, 0, 1, 0, 0]) (blockK 0 (seqK (EmR.no _) (ref49_Less.C n) n (Code.go ref49_Less.code [1, 1, 1]) (bodyK (ref49_Less.C n) f77 ref49_Less.rs))) (m0 + 1) ⟨[(0, .dat (.slc TCube) l_1), (3, .ptr 3 0 TCube []), (5, .lst (.tip 100005 0) TCube out), (6, .dat (.int .i64) i)], [(100005, .tok 0), (3, .box 0 true (.dat TCube c_1))]⟩ = ref49_Less.s0 n (fun (out' : (List Cube)) (i' : Int) => it (EmR.no _) (ref49_Less.C n) n (Code.go ref49_Less.code [1, 1, 0, 1, 0, 0]) (blockK 0 (seqK (EmR.no _) (ref49_Less.C n) n (Code.go ref49_Less.code [1, 1, 1]) (bodyK (ref49_Less.C n) f77 ref49_Less.rs))) m0 ⟨[(0, .dat (.slc TCube) l_1), (3, .ptr 3 0 TCube []), (5, .lst (.tip 100005 0) TCube (out')), (6, .dat (.int .i64) (i'))], [(100005, .tok 0), (3, .box 0 true (.dat TCube c_1))]⟩) l_1 out i c_1 := by kernel_rfl
theorem ref49_Less.l0.eq (n : Nat) (l_1 : (List Cube)) (c_1 : Cube) : ∀ (m0 : Nat) (out : (List Cube)) (i : Int), it (EmR.no _) (ref49_Less.C n) n (Code.go ref49_Less.code [1, 1, 0, 1, 0, 0]) (blockK 0 (seqK (EmR.no _) (ref49_Less.C n) n (Code.go ref49_Less.code [1, 1, 1]) (bodyK (ref49_Less.C n) f77 ref49_Less.rs))) m0 ⟨[(0, .dat (.slc TCube) l_1), (3, .ptr 3 0 TCube []), (5, .lst (.tip 100005 0) TCube out), (6, .dat (.int .i64) i)], [(100005, .tok 0), (3, .box 0 true (.dat TCube c_1))]⟩ = ref49_Less.l0 n l_1 c_1 m0 out i
  | 0, _, _ => rfl
  | m0 + 1, out, i =>
    (ref49_Less.l0.step n m0 l_1 out i c_1).trans (congr1 (fun k0 => ref49_Less.s0 n k0 l_1 out i c_1) (funext fun out' => funext fun i' => ref49_Less.l0.eq n l_1 c_1 m0 out' i'))
theorem ref49_Less.run0 (n : Nat) (x : pdens ref49_Less.ps) : Vi.run (ref49_Less.C n) n f77 ref49_Less.ps ref49_Less.rs x = ref49_Less.s n (fun (l_1' : (List Cube)) (out' : (List Cube)) (i' : Int) (c_1' : Cube) => it (EmR.no _) (ref49_Less.C n) n (Code.go ref49_Less.code [1, 1, 0, 1, 0, 0]) (blockK 0 (seqK (EmR.no _) (ref49_Less.C n) n (Code.go ref49_Less.code [1, 1, 1]) (bodyK (ref49_Less.C n) f77 ref49_Less.rs))) n ⟨[(0, .dat (.slc TCube) (l_1')), (3, .ptr 3 0 TCube []), (5, .lst (.tip 100005 0) TCube (out')), (6, .dat (.int .i64) (i'))], [(100005, .tok 0), (3, .box 0 true (.dat TCube (c_1')))]⟩) x.1 x.2 := by kernel_rfl
theorem ref49_Less.eq (n : Nat) (x : pdens ref49_Less.ps) : Vi.run (ref49_Less.C n) n f77 ref49_Less.ps ref49_Less.rs x = ref49_Less n x.1 x.2 :=
  (ref49_Less.run0 n x).trans (congr1 (fun k0 => ref49_Less.s n k0 x.1 x.2) (funext fun l_1' => funext fun out' => funext fun i' => funext fun c_1' => ref49_Less.l0.eq n l_1' c_1' n out' i'))
theorem ref49_Less.sound (n : Nat) : SoundE prog 77 (ref49_Less.e n) :=
  soundE_of_run (C := ref49_Less.C n) (n := n) (ref49_Less.ok n) func77 (by kernel_rfl) (by kernel_rfl) (fun x r h => (ref49_Less.eq n x).trans h)

def ref49_Rule.rs : List RTy := [.fresh TCube, .data (.int .i64)]
def ref49_Rule.ps : List PTy := [.data TFlat, .data (.int .i64), .data (.int .i64)]
noncomputable def ref49_Rule.e (n : Nat) : Ent := ⟨ref49_Rule.ps, ref49_Rule.rs, fun x => ref49_Rule n x.1 x.2.1 x.2.2⟩
noncomputable def ref49_Rule.C (n : Nat) : Ctx := { tab := tab, fts := fts, pts := pts, Γ := lookO [(76, ref06_Clean.e n), (77, ref49_Less.e n)], Γc := lookO [], Γs := lookO [], Γm := lookO [], Γo := lookO [], ntmps := f26.ntmps, keep := Vi.look ([], []) [(7, ([1, 2, 3, 8, 9], [3]))], pins := [] }
theorem ref49_Rule.ok (n : Nat) : CtxOk prog (ref49_Rule.C n) := ⟨types, ftsOk_, ptsOk_, (fns_cons (ref06_Clean.sound n) (fns_cons (ref49_Less.sound n) fns_nil)), cls_nil, sqs_nil, ems_nil, mixed, ons_nil⟩
noncomputable def ref49_Rule.code : Code := bodyOf f26
theorem ref49_Rule.l0.step (n : Nat) (m0 : Nat) (i_1 : Int) (most_1 : Int) (l : (List Cube)) (k9 : Int) (f_1 : Flat) : it (EmR.no _) (ref49_Rule.C n) n (Code.go ref49_Rule.code [1, 1, 1, 1, 0, 1, 0, 0]) (blockK 0 (seqK (EmR.no _) (ref49_Rule.C n) n (Code.go ref49_Rule.code [1, 1, 1, 1, 1]) (bodyK (ref49_Rule.C n) f26 ref49_Rule.rs))) (m0 + 1) ⟨[(1, .dat (.int .i64) i_1), (2, .dat (.int .i64) most_1), (3, .ptr 3 0 TFlat []), (8, .lst (.tip 100008 0) TCube l), (9, .dat (.int .i64) k9)], [(100008, .tok 0), (3, .box 0 false (.dat TFlat f_1))]⟩ = ref49_Rule.s0 n (fun (l' : (List Cube)) (k9' : Int) => it (EmR.no _) (ref49_Rule.C n) n (Code.go ref49_Rule.code [1, 1, 1, 1, 0, 1, 0, 0]) (blockK 0 (seqK (EmR.no _) (ref49_Rule.C n) n (Code.go ref49_Rule.code [1, 1, 1, 1, 1]) (bodyK (ref49_Rule.C n) f26 ref49_Rule.rs))) m0 ⟨[(1, .dat (.int .i64) i_1), (2, .dat (.int .i64) most_1), (3, .ptr 3 0 TFlat []), (8, .lst (.tip 100008 0) TCube (l')), (9, .dat (.int .i64) (k9'))], [(100008, .tok 0), (3, .box 0 false (.dat TFlat f_1))]⟩) i_1 most_1 l k9 f_1 := by kernel_rfl
theorem ref49_Rule.l0.eq (n : Nat) (i_1 : Int) (most_1 : Int) (f_1 : Flat) : ∀ (m0 : Nat) (l : (List Cube)) (k9 : Int), it (EmR.no _) (ref49_Rule.C n) n (Code.go ref49_Rule.code [1, 1, 1, 1, 0, 1, 0, 0]) (blockK 0 (seqK (EmR.no _) (ref49_Rule.C n) n (Code.go ref49_Rule.code [1, 1, 1, 1, 1]) (bodyK (ref49_Rule.C n) f26 ref49_Rule.rs))) m0 ⟨[(1, .dat (.int .i64) i_1), (2, .dat (.int .i64) most_1), (3, .ptr 3 0 TFlat []), (8, .lst (.tip 100008 0) TCube l), (9, .dat (.int .i64) k9)], [(100008, .tok 0), (3, .box 0 false (.dat TFlat f_1))]⟩ = ref49_Rule.l0 n i_1 most_1 f_1 m0 l k9
  | 0, _, _ => rfl
  | m0 + 1, l, k9 =>
    (ref49_Rule.l0.step n m0 i_1 most_1 l k9 f_1).trans (congr1 (fun k0 => ref49_Rule.s0 n k0 i_1 most_1 l k9 f_1) (funext fun l' => funext fun k9' => ref49_Rule.l0.eq n i_1 most_1 f_1 m0 l' k9'))
theorem ref49_Rule.run0 (n : Nat) (x : pdens ref49_Rule.ps) : Vi.run (ref49_Rule.C n) n f26 ref49_Rule.ps ref49_Rule.rs x = ref49_Rule.s n (fun (i_1' : Int) (most_1' : Int) (l' : (List Cube)) (k9' : Int) (f_1' : Flat) => it (EmR.no _) (ref49_Rule.C n) n (Code.go ref49_Rule.code [1, 1, 1, 1, 0, 1, 0, 0]) (blockK 0 (seqK (EmR.no _) (ref49_Rule.C n) n (Code.go ref49_Rule.code [1, 1, 1, 1, 1]) (bodyK (ref49_Rule.C n) f26 ref49_Rule.rs))) n ⟨[(1, .dat (.int .i64) (i_1')), (2, .dat (.int .i64) (most_1')), (3, .ptr 3 0 TFlat []), (8, .lst (.tip 100008 0) TCube (l')), (9, .dat (.int .i64) (k9'))], [(100008, .tok 0), (3, .box 0 false (.dat TFlat (f_1')))]⟩) x.1 x.2.1 x.2.2 := by kernel_rfl
theorem ref49_Rule.eq (n : Nat) (x : pdens ref49_Rule.ps) : Vi.run (ref49_Rule.C n) n f26 ref49_Rule.ps ref49_Rule.rs x = ref49_Rule n x.1 x.2.1 x.2.2 :=
  (ref49_Rule.run0 n x).trans (congr1 (fun k0 => ref49_Rule.s n k0 x.1 x.2.1 x.2.2) (funext fun i_1' => funext fun most_1' => funext fun l' => funext fun k9' => funext fun f_1' => ref49_Rule.l0.eq n i_1' most_1' f_1' n l' k9'))
theorem ref49_Rule.sound (n : Nat) : SoundE prog 26 (ref49_Rule.e n) :=
  soundE_of_run (C := ref49_Rule.C n) (n := n) (ref49_Rule.ok n) func26 (by kernel_rfl) (by kernel_rfl) (fun x r h => (ref49_Rule.eq n x).trans h)

def ref49_All.rs : List RTy := [.fresh (.slc TCube), .data (.int .i64)]
def ref49_All.ps : List PTy := [.data TFlat, .data (.int .i64)]
noncomputable def ref49_All.e (n : Nat) : Ent := ⟨ref49_All.ps, ref49_All.rs, fun x => ref49_All n x.1 x.2⟩
noncomputable def ref49_All.C (n : Nat) : Ctx := { tab := tab, fts := fts, pts := pts, Γ := lookO [(26, ref49_Rule.e n)], Γc := lookO [], Γs := lookO [], Γm := lookO [], Γo := lookO [], ntmps := f27.ntmps, keep := Vi.look ([], []) [(3, ([1, 2, 6, 7], [2]))], pins := [] }
theorem ref49_All.ok (n : Nat) : CtxOk prog (ref49_All.C n) := ⟨types, ftsOk_, ptsOk_, (fns_cons (ref49_Rule.sound n) fns_nil), cls_nil, sqs_nil, ems_nil, mixed, ons_nil⟩
noncomputable def ref49_All.code : Code := bodyOf f27
theorem ref49_All.l0.step (n : Nat) (m0 : Nat) (most_1 : Int) (out : (List (List Cube))) (i : Int) (f_1 : Flat) : it (EmR.no _) (ref49_All.C n) n (Code.go ref49_All.code [1, 1, 0, 1, 0, 0]) (blockK 0 (seqK (EmR.no _) (ref49_All.C n) n (Code.go ref49_All.code [1, 1, 1]) (bodyK (ref49_All.C n) f27 ref49_All.rs))) (m0 + 1) ⟨[(1, .dat (.int .i64) most_1), (2, .ptr 2 0 TFlat []), (6, .lst (.tip 100006 0) (.slc TCube) out), (7, .dat (.int .i64) i)], [(100006, .tok 0), (2, .box 0 false (.dat TFlat f_1))]⟩ = ref49_All.s0 n (fun (out' : (List (List Cube))) (i' : Int) => it (EmR.no _) (ref49_All.C n) n (Code.go ref49_All.code [1, 1, 0, 1, 0, 0]) (blockK 0 (seqK (EmR.no _) (ref49_All.C n) n (Code.go ref49_All.code [1, 1, 1]) (bodyK (ref49_All.C n) f27 ref49_All.rs))) m0 ⟨[(1, .dat (.int .i64) most_1), (2, .ptr 2 0 TFlat []), (6, .lst (.tip 100006 0) (.slc TCube) (out')), (7, .dat (.int .i64) (i'))], [(100006, .tok 0), (2, .box 0 false (.dat TFlat f_1))]⟩) most_1 out i f_1 := by kernel_rfl
theorem ref49_All.l0.eq (n : Nat) (most_1 : Int) (f_1 : Flat) : ∀ (m0 : Nat) (out : (List (List Cube))) (i : Int), it (EmR.no _) (ref49_All.C n) n (Code.go ref49_All.code [1, 1, 0, 1, 0, 0]) (blockK 0 (seqK (EmR.no _) (ref49_All.C n) n (Code.go ref49_All.code [1, 1, 1]) (bodyK (ref49_All.C n) f27 ref49_All.rs))) m0 ⟨[(1, .dat (.int .i64) most_1), (2, .ptr 2 0 TFlat []), (6, .lst (.tip 100006 0) (.slc TCube) out), (7, .dat (.int .i64) i)], [(100006, .tok 0), (2, .box 0 false (.dat TFlat f_1))]⟩ = ref49_All.l0 n most_1 f_1 m0 out i
  | 0, _, _ => rfl
  | m0 + 1, out, i =>
    (ref49_All.l0.step n m0 most_1 out i f_1).trans (congr1 (fun k0 => ref49_All.s0 n k0 most_1 out i f_1) (funext fun out' => funext fun i' => ref49_All.l0.eq n most_1 f_1 m0 out' i'))
theorem ref49_All.run0 (n : Nat) (x : pdens ref49_All.ps) : Vi.run (ref49_All.C n) n f27 ref49_All.ps ref49_All.rs x = ref49_All.s n (fun (most_1' : Int) (out' : (List (List Cube))) (i' : Int) (f_1' : Flat) => it (EmR.no _) (ref49_All.C n) n (Code.go ref49_All.code [1, 1, 0, 1, 0, 0]) (blockK 0 (seqK (EmR.no _) (ref49_All.C n) n (Code.go ref49_All.code [1, 1, 1]) (bodyK (ref49_All.C n) f27 ref49_All.rs))) n ⟨[(1, .dat (.int .i64) (most_1')), (2, .ptr 2 0 TFlat []), (6, .lst (.tip 100006 0) (.slc TCube) (out')), (7, .dat (.int .i64) (i'))], [(100006, .tok 0), (2, .box 0 false (.dat TFlat (f_1')))]⟩) x.1 x.2 := by kernel_rfl
theorem ref49_All.eq (n : Nat) (x : pdens ref49_All.ps) : Vi.run (ref49_All.C n) n f27 ref49_All.ps ref49_All.rs x = ref49_All n x.1 x.2 :=
  (ref49_All.run0 n x).trans (congr1 (fun k0 => ref49_All.s n k0 x.1 x.2) (funext fun most_1' => funext fun out' => funext fun i' => funext fun f_1' => ref49_All.l0.eq n most_1' f_1' n out' i'))
theorem ref49_All.sound (n : Nat) : SoundE prog 27 (ref49_All.e n) :=
  soundE_of_run (C := ref49_All.C n) (n := n) (ref49_All.ok n) func27 (by kernel_rfl) (by kernel_rfl) (fun x r h => (ref49_All.eq n x).trans h)

def slices_EqualFunc_LCube.rs : List RTy := [.data .bool]
def slices_EqualFunc_LCube.ps : List PTy := [.data (.slc (.slc TCube)), .data (.slc (.slc TCube)), .fnp [(.slc TCube), (.slc TCube)] [.bool]]
noncomputable def slices_EqualFunc_LCube.e (n : Nat) : Ent := ⟨slices_EqualFunc_LCube.ps, slices_EqualFunc_LCube.rs, fun x => slices_EqualFunc_LCube n x.1 x.2.1 x.2.2⟩
noncomputable def slices_EqualFunc_LCube.C (n : Nat) : Ctx := { tab := tab, fts := fts, pts := pts, Γ := lookO [], Γc := lookO [], Γs := lookO [], Γm := lookO [], Γo := lookO [], ntmps := f29.ntmps, keep := Vi.look ([], []) [(4, ([1, 2, 15, 16, 17], []))], pins := [] }
theorem slices_EqualFunc_LCube.ok (n : Nat) : CtxOk prog (slices_EqualFunc_LCube.C n) := ⟨types, ftsOk_, ptsOk_, fns_nil, cls_nil, sqs_nil, ems_nil, mixed, ons_nil⟩
noncomputable def slices_EqualFunc_LCube.code : Code := bodyOf f29
theorem slices_EqualFunc_LCube.l0.step (n : Nat) (m0 : Nat) (s2_1 : (List (List Cube))) (eq_1 : (((List Cube) × (List Cube)) → Option Bool)) (v15 : (List (List Cube))) (v16 : Int) (v17 : Int) : it (EmR.no _) (slices_EqualFunc_LCube.C n) n (Code.go slices_EqualFunc_LCube.code [1, 1, 0, 1, 0, 0]) (blockK 0 (seqK (EmR.no _) (slices_EqualFunc_LCube.C n) n (Code.go slices_EqualFunc_LCube.code [1, 1, 1]) (bodyK (slices_EqualFunc_LCube.C n) f29 slices_EqualFunc_LCube.rs))) (m0 + 1) ⟨[(1, .dat (.slc (.slc TCube)) s2_1), (2, .fn [(.slc TCube), (.slc TCube)] [.bool] eq_1), (15, .dat (.slc (.slc TCube)) v15), (16, .dat (.int .i64) v16), (17, .dat (.int .i64) v17)], []⟩ = slices_EqualFunc_LCube.s0 n (fun (v17' : Int) => it (EmR.no _) (slices_EqualFunc_LCube.C n) n (Code.go slices_EqualFunc_LCube.code [1, 1, 0, 1, 0, 0]) (blockK 0 (seqK (EmR.no _) (slices_EqualFunc_LCube.C n) n (Code.go slices_EqualFunc_LCube.code [1, 1, 1]) (bodyK (slices_EqualFunc_LCube.C n) f29 slices_EqualFunc_LCube.rs))) m0 ⟨[(1, .dat (.slc (.slc TCube)) s2_1), (2, .fn [(.slc TCube), (.slc TCube)] [.bool] eq_1), (15, .dat (.slc (.slc TCube)) v15), (16, .dat (.int .i64) v16), (17, .dat (.int .i64) (v17'))], []⟩) s2_1 eq_1 v15 v16 v17 := by kernel_rfl
theorem slices_EqualFunc_LCube.l0.eq (n : Nat) (s2_1 : (List (List Cube))) (eq_1 : (((List Cube) × (List Cube)) → Option Bool)) (v15 : (List (List Cube))) (v16 : Int) : ∀ (m0 : Nat) (v17 : Int), it (EmR.no _) (slices_EqualFunc_LCube.C n) n (Code.go slices_EqualFunc_LCube.code [1, 1, 0, 1, 0, 0]) (blockK 0 (seqK (EmR.no _) (slices_EqualFunc_LCube.C n) n (Code.go slices_EqualFunc_LCube.code [1, 1, 1]) (bodyK (slices_EqualFunc_LCube.C n) f29 slices_EqualFunc_LCube.rs))) m0 ⟨[(1, .dat (.slc (.slc TCube)) s2_1), (2, .fn [(.slc TCube), (.slc TCube)] [.bool] eq_1), (15, .dat (.slc (.slc TCube)) v15), (16, .dat (.int .i64) v16), (17, .dat (.int .i64) v17)], []⟩ = slices_EqualFunc_LCube.l0 n s2_1 eq_1 v15 v16 m0 v17
  | 0, _ => rfl
  | m0 + 1, v17 =>
    (slices_EqualFunc_LCube.l0.step n m0 s2_1 eq_1 v15 v16 v17).trans (congr1 (fun k0 => slices_EqualFunc_LCube.s0 n k0 s2_1 eq_1 v15 v16 v17) (funext fun v17' => slices_EqualFunc_LCube.l0.eq n s2_1 eq_1 v15 v16 m0 v17'))
theorem slices_EqualFunc_LCube.run0 (n : Nat) (x : pdens slices_EqualFunc_LCube.ps) : Vi.run (slices_EqualFunc_LCube.C n) n f29 slices_EqualFunc_LCube.ps slices_EqualFunc_LCube.rs x = slices_EqualFunc_LCube.s n (fun (s2_1' : (List (List Cube))) (eq_1' : (((List Cube) × (List Cube)) → Option Bool)) (v15' : (List (List Cube))) (v16' : Int) (v17' : Int) => it (EmR.no _) (slices_EqualFunc_LCube.C n) n (Code.go slices_EqualFunc_LCube.code [1, 1, 0, 1, 0, 0]) (blockK 0 (seqK (EmR.no _) (slices_EqualFunc_LCube.C n) n (Code.go slices_EqualFunc_LCube.code [1, 1, 1]) (bodyK (slices_EqualFunc_LCube.C n) f29 slices_EqualFunc_LCube.rs))) n ⟨[(1, .dat (.slc (.slc TCube)) (s2_1')), (2, .fn [(.slc TCube), (.slc TCube)] [.bool] (eq_1')), (15, .dat (.slc (.slc TCube)) (v15')), (16, .dat (.int .i64) (v16')), (17, .dat (.int .i64) (v17'))], []⟩) x.1 x.2.1 x.2.2 := by kernel_rfl
theorem slices_EqualFunc_LCube.eq (n : Nat) (x : pdens slices_EqualFunc_LCube.ps) : Vi.run (slices_EqualFunc_LCube.C n) n f29 slices_EqualFunc_LCube.ps slices_EqualFunc_LCube.rs x = slices_EqualFunc_LCube n x.1 x.2.1 x.2.2 :=
  (slices_EqualFunc_LCube.run0 n x).trans (congr1 (fun k0 => slices_EqualFunc_LCube.s n k0 x.1 x.2.1 x.2.2) (funext fun s2_1' => funext fun eq_1' => funext fun v15' => funext fun v16' => funext fun v17' => slices_EqualFunc_LCube.l0.eq n s2_1' eq_1' v15' v16' n v17'))
theorem slices_EqualFunc_LCube.sound (n : Nat) : SoundE prog 29 (slices_EqualFunc_LCube.e n) :=
  soundE_of_run (C := slices_EqualFunc_LCube.C n) (n := n) (slices_EqualFunc_LCube.ok n) func29 (by kernel_rfl) (by kernel_rfl) (fun x r h => (slices_EqualFunc_LCube.eq n x).trans h)

def law49_same_c.rs : List Ty := [.bool]
def law49_same_c.ps : List Ty := [(.slc TCube), (.slc TCube)]
def law49_same_c.caps : List PTy := []
noncomputable def law49_same_c.e (n : Nat) : Cl := ⟨law49_same_c.ps, law49_same_c.caps, law49_same_c.rs, fun x c => law49_same_c n x.1 x.2⟩
noncomputable def law49_same_c.C (n : Nat) : Ctx := { tab := tab, fts := fts, pts := pts, Γ := lookO [(28, slices_Equal_Cube.e n)], Γc := lookO [], Γs := lookO [], Γm := lookO [], Γo := lookO [], ntmps := f30.ntmps, keep := Vi.look ([], []) [], pins := [] }
theorem law49_same_c.ok (n : Nat) : CtxOk prog (law49_same_c.C n) := ⟨types, ftsOk_, ptsOk_, (fns_cons (slices_Equal_Cube.sound n) fns_nil), cls_nil, sqs_nil, ems_nil, mixed, ons_nil⟩
theorem law49_same_c.eq (n : Nat) (x : dens law49_same_c.ps) (c : pdens law49_same_c.caps) : Vi.runC (law49_same_c.C n) n f30 law49_same_c.ps law49_same_c.caps law49_same_c.rs x c = law49_same_c n x.1 x.2 := by kernel_rfl
theorem law49_same_c.sound (n : Nat) : SoundC prog 30 (law49_same_c.e n) :=
  soundC_of_run (C := law49_same_c.C n) (n := n) (law49_same_c.ok n) func30 (by kernel_rfl) (by kernel_rfl) (fun x c r h => (law49_same_c.eq n x c).trans h)

def ref05_Has.rs : List RTy := [.data .bool]
def ref05_Has.ps : List PTy := [.data TTern, .data TWide]
noncomputable def ref05_Has.e (n : Nat) : Ent := ⟨ref05_Has.ps, ref05_Has.rs, fun x => some (ref05_Has x.1 x.2)⟩
noncomputable def ref05_Has.C (n : Nat) : Ctx := { tab := tab, fts := fts, pts := pts, Γ := lookO [(159, ref02_And.e n), (160, ref02_Zero.e n), (161, ref02_Xor.e n)], Γc := lookO [], Γs := lookO [], Γm := lookO [], Γo := lookO [], ntmps := f128.ntmps, keep := Vi.look ([], []) [], pins := [], cold := [3] }
theorem ref05_Has.ok (n : Nat) : CtxOk prog (ref05_Has.C n) := ⟨types, ftsOk_, ptsOk_, (fns_cons (ref02_And.sound n) (fns_cons (ref02_Zero.sound n) (fns_cons (ref02_Xor.sound n) fns_nil))), cls_nil, sqs_nil, ems_nil, mixed, ons_nil⟩
theorem ref05_Has.eq (n : Nat) (x : pdens ref05_Has.ps) : Vi.run (ref05_Has.C n) n f128 ref05_Has.ps ref05_Has.rs x = some (ref05_Has x.1 x.2) := by kernel_rfl
theorem ref05_Has.sound (n : Nat) : SoundE prog 128 (ref05_Has.e n) :=
  soundE_of_run (C := ref05_Has.C n) (n := n) (ref05_Has.ok n) func128 (by kernel_rfl) (by kernel_rfl) (fun x r h => (ref05_Has.eq n x).trans h)

def ref06_Has.rs : List RTy := [.data .bool]
def ref06_Has.ps : List PTy := [.data TCube, .data THeader]
noncomputable def ref06_Has.e (n : Nat) : Ent := ⟨ref06_Has.ps, ref06_Has.rs, fun x => ref06_Has n x.1 x.2⟩
noncomputable def ref06_Has.C (n : Nat) : Ctx := { tab := tab, fts := fts, pts := pts, Γ := lookO [(128, ref05_Has.e n)], Γc := lookO [], Γs := lookO [], Γm := lookO [], Γo := lookO [], ntmps := f80.ntmps, keep := Vi.look ([], []) [(2, ([2, 3, 5], [2, 3]))], pins := [] }
theorem ref06_Has.ok (n : Nat) : CtxOk prog (ref06_Has.C n) := ⟨types, ftsOk_, ptsOk_, (fns_cons (ref05_Has.sound n) fns_nil), cls_nil, sqs_nil, ems_nil, mixed, ons_nil⟩
noncomputable def ref06_Has.code : Code := bodyOf f80
theorem ref06_Has.l0.step (n : Nat) (m0 : Nat) (f : Int) (c_1 : Cube) (h_1 : Header) : it (EmR.no _) (ref06_Has.C n) n (Code.go ref06_Has.code [1, 0, 1, 0, 0]) (blockK 0 (seqK (EmR.no _) (ref06_Has.C n) n (Code.go ref06_Has.code [1, 1]) (bodyK (ref06_Has.C n) f80 ref06_Has.rs))) (m0 + 1) ⟨[(2, .ptr 2 0 TCube []), (3, .ptr 3 0 THeader []), (5, .dat (.int .i64) f)], [(2, .box 0 false (.dat TCube c_1)), (3, .box 0 false (.dat THeader h_1))]⟩ = ref06_Has.s0 n (fun (f' : Int) => it (EmR.no _) (ref06_Has.C n) n (Code.go ref06_Has.code [1, 0, 1, 0, 0]) (blockK 0 (seqK (EmR.no _) (ref06_Has.C n) n (Code.go ref06_Has.code [1, 1]) (bodyK (ref06_Has.C n) f80 ref06_Has.rs))) m0 ⟨[(2, .ptr 2 0 TCube []), (3, .ptr 3 0 THeader []), (5, .dat (.int .i64) (f'))], [(2, .box 0 false (.dat TCube c_1)), (3, .box 0 false (.dat THeader h_1))]⟩) f c_1 h_1 := by kernel_rfl
theorem ref06_Has.l0.eq (n : Nat) (c_1 : Cube) (h_1 : Header) : ∀ (m0 : Nat) (f : Int), it (EmR.no _) (ref06_Has.C n) n (Code.go ref06_Has.code [1, 0, 1, 0, 0]) (blockK 0 (seqK (EmR.no _) (ref06_Has.C n) n (Code.go ref06_Has.code [1, 1]) (bodyK (ref06_Has.C n) f80 ref06_Has.rs))) m0 ⟨[(2, .ptr 2 0 TCube []), (3, .ptr 3 0 THeader []), (5, .dat (.int .i64) f)], [(2, .box 0 false (.dat TCube c_1)), (3, .box 0 false (.dat THeader h_1))]⟩ = ref06_Has.l0 n c_1 h_1 m0 f
  | 0, _ => rfl
  | m0 + 1, f =>
    (ref06_Has.l0.step n m0 f c_1 h_1).trans (congr1 (fun k0 => ref06_Has.s0 n k0 f c_1 h_1) (funext fun f' => ref06_Has.l0.eq n c_1 h_1 m0 f'))
theorem ref06_Has.run0 (n : Nat) (x : pdens ref06_Has.ps) : Vi.run (ref06_Has.C n) n f80 ref06_Has.ps ref06_Has.rs x = ref06_Has.s n (fun (f' : Int) (c_1' : Cube) (h_1' : Header) => it (EmR.no _) (ref06_Has.C n) n (Code.go ref06_Has.code [1, 0, 1, 0, 0]) (blockK 0 (seqK (EmR.no _) (ref06_Has.C n) n (Code.go ref06_Has.code [1, 1]) (bodyK (ref06_Has.C n) f80 ref06_Has.rs))) n ⟨[(2, .ptr 2 0 TCube []), (3, .ptr 3 0 THeader []), (5, .dat (.int .i64) (f'))], [(2, .box 0 false (.dat TCube (c_1'))), (3, .box 0 false (.dat THeader (h_1')))]⟩) x.1 x.2 := by kernel_rfl
theorem ref06_Has.eq (n : Nat) (x : pdens ref06_Has.ps) : Vi.run (ref06_Has.C n) n f80 ref06_Has.ps ref06_Has.rs x = ref06_Has n x.1 x.2 :=
  (ref06_Has.run0 n x).trans (congr1 (fun k0 => ref06_Has.s n k0 x.1 x.2) (funext fun f' => funext fun c_1' => funext fun h_1' => ref06_Has.l0.eq n c_1' h_1' n f'))
theorem ref06_Has.sound (n : Nat) : SoundE prog 80 (ref06_Has.e n) :=
  soundE_of_run (C := ref06_Has.C n) (n := n) (ref06_Has.ok n) func80 (by kernel_rfl) (by kernel_rfl) (fun x r h => (ref06_Has.eq n x).trans h)

def ref49_Place.rs : List RTy := [.data (.int .i64), .data (.int .i64), .data .bool]
def ref49_Place.ps : List PTy := [.data (.slc (.slc TCube)), .data THeader]
noncomputable def ref49_Place.e (n : Nat) : Ent := ⟨ref49_Place.ps, ref49_Place.rs, fun x => ref49_Place n x.1 x.2⟩
noncomputable def ref49_Place.C (n : Nat) : Ctx := { tab := tab, fts := fts, pts := pts, Γ := lookO [(80, ref06_Has.e n)], Γc := lookO [], Γs := lookO [], Γm := lookO [], Γo := lookO [], ntmps := f32.ntmps, keep := Vi.look ([], []) [(2, ([0, 3, 7], [3])), (5, ([0, 3, 7, 8], [3]))], pins := [], cold := [3] }
theorem ref49_Place.ok (n : Nat) : CtxOk prog (ref49_Place.C n) := ⟨types, ftsOk_, ptsOk_, (fns_cons (ref06_Has.sound n) fns_nil), cls_nil, sqs_nil, ems_nil, mixed, ons_nil⟩
noncomputable def ref49_Place.code : Code := bodyOf f32
theorem ref49_Place.l1.step (n : Nat) (m0 : Nat) (m1 : Nat) (l_2 : (List (List Cube))) (i_1 : Int) (j : Int) (h_2 : Header) : it (EmR.no _) (ref49_Place.C n) n (Code.go ref49_Place.code [1, 0, 1, 0, 0, 1, 0, 0, 1, 0, 0]) (blockK 2 (blockK 1 (seqK (EmR.no _) (ref49_Place.C n) n (Code.go ref49_Place.code [1, 0, 1, 0, 0, 1, 1]) (loopK (EmR.no _) (ref49_Place.C n) n (Code.go ref49_Place.code [1, 0, 1, 0, 0]) (blockK 0 (seqK (EmR.no _) (ref49_Place.C n) n (Code.go ref49_Place.code [1, 1]) (bodyK (ref49_Place.C n) f32 ref49_Place.rs))) m0)))) (m1 + 1) ⟨[(0, .dat (.slc (.slc TCube)) l_2), (3, .ptr 3 0 THeader []), (7, .dat (.int .i64) i_1), (8, .dat (.int .i64) j)], [(3, .box 0 true (.dat THeader h_2))]⟩ = ref49_Place.s1 n (fun (j' : Int) => it (EmR.no _) (ref49_Place.C n) n (Code.go ref49_Place.code [1, 0, 1, 0, 0, 1, 0, 0, 1, 0, 0]) (blockK 2 (blockK 1 (seqK (EmR.no _) (ref49_Place.C n) n (Code.go ref49_Place.code [1, 0, 1, 0, 0, 1, 1]) (loopK (EmR.no _) (ref49_Place.C n) n (Code.go ref49_Place.code [1, 0, 1, 0, 0]) (blockK 0 (seqK (EmR.no _) (ref49_Place.C n) n (Code.go ref49_Place.code [1, 1]) (bodyK (ref49_Place.C n) f32 ref49_Place.rs))) m0)))) m1 ⟨[(0, .dat (.slc (.slc TCube)) l_2), (3, .ptr 3 0 THeader []), (7, .dat (.int .i64) i_1), (8, .dat (.int .i64) (j'))], [(3, .box 0 true (.dat THeader h_2))]⟩) (fun (l_1' : (List (List Cube))) (i' : Int) (h_1' : Header) => it (EmR.no _) (ref49_Place.C n) n (Code.go ref49_Place.code [1, 0, 1, 0, 0]) (blockK 0 (seqK (EmR.no _) (ref49_Place.C n) n (Code.go ref49_Place.code [1, 1]) (bodyK (ref49_Place.C n) f32 ref49_Place.rs))) m0 ⟨[(0, .dat (.slc (.slc TCube)) (l_1')), (3, .ptr 3 0 THeader []), (7, .dat (.int .i64) (i'))], [(3, .box 0 true (.dat THeader (h_1')))]⟩) l_2 i_1 j h_2 := by kernel_rfl
theorem ref49_Place.l1.eq (n : Nat) (m0 : Nat) (l_2 : (List (List Cube))) (i_1 : Int) (h_2 : Header) : ∀ (m1 : Nat) (j : Int), it (EmR.no _) (ref49_Place.C n) n (Code.go ref49_Place.code [1, 0, 1, 0, 0, 1, 0, 0, 1, 0, 0]) (blockK 2 (blockK 1 (seqK (EmR.no _) (ref49_Place.C n) n (Code.go ref49_Place.code [1, 0, 1, 0, 0, 1, 1]) (loopK (EmR.no _) (ref49_Place.C n) n (Code.go ref49_Place.code [1, 0, 1, 0, 0]) (blockK 0 (seqK (EmR.no _) (ref49_Place.C n) n (Code.go ref49_Place.code [1, 1]) (bodyK (ref49_Place.C n) f32 ref49_Place.rs))) m0)))) m1 ⟨[(0, .dat (.slc (.slc TCube)) l_2), (3, .ptr 3 0 THeader []), (7, .dat (.int .i64) i_1), (8, .dat (.int .i64) j)], [(3, .box 0 true (.dat THeader h_2))]⟩ = ref49_Place.l1 n l_2 i_1 h_2 (fun (l_1'' : (List (List Cube))) (i'' : Int) (h_1'' : Header) => it (EmR.no _) (ref49_Place.C n) n (Code.go ref49_Place.code [1, 0, 1, 0, 0]) (blockK 0 (seqK (EmR.no _) (ref49_Place.C n) n (Code.go ref49_Place.code [1, 1]) (bodyK (ref49_Place.C n) f32 ref49_Place.rs))) m0 ⟨[(0, .dat (.slc (.slc TCube)) (l_1'')), (3, .ptr 3 0 THeader []), (7, .dat (.int .i64) (i''))], [(3, .box 0 true (.dat THeader (h_1'')))]⟩) m1 j
  | 0, _ => rfl
  | m1 + 1, j =>
    (ref49_Place.l1.step n m0 m1 l_2 i_1 j h_2).trans (congr2 (fun k1 k0 => ref49_Place.s1 n k1 k0 l_2 i_1 j h_2) (funext fun j' => ref49_Place.l1.eq n m0 l_2 i_1 h_2 m1 j') rfl)
theorem ref49_Place.l0.step (n : Nat) (m0 : Nat) (l_1 : (List (List Cube))) (i : Int) (h_1 : Header) : it (EmR.no _) (ref49_Place.C n) n (Code.go ref49_Place.code [1, 0, 1, 0, 0]) (blockK 0 (seqK (EmR.no _) (ref49_Place.C n) n (Code.go ref49_Place.code [1, 1]) (bodyK (ref49_Place.C n) f32 ref49_Place.rs))) (m0 + 1) ⟨[(0, .dat (.slc (.slc TCube)) l_1), (3, .ptr 3 0 THeader []), (7, .dat (.int .i64) i)], [(3, .box 0 true (.dat THeader h_1))]⟩ = ref49_Place.s0 n (fun (l_2' : (List (List Cube))) (i_1' : Int) (j' : Int) (h_2' : Header) => it (EmR.no _) (ref49_Place.C n) n (Code.go ref49_Place.code [1, 0, 1, 0, 0, 1, 0, 0, 1, 0, 0]) (blockK 2 (blockK 1 (seqK (EmR.no _) (ref49_Place.C n) n (Code.go ref49_Place.code [1, 0, 1, 0, 0, 1, 1]) (loopK (EmR.no _) (ref49_Place.C n) n (Code.go ref49_Place.code [1, 0, 1, 0, 0]) (blockK 0 (seqK (EmR.no _) (ref49_Place.C n) n (Code.go ref49_Place.code [1, 1]) (bodyK (ref49_Place.C n) f32 ref49_Place.rs))) m0)))) n ⟨[(0, .dat (.slc (.slc TCube)) (l_2')), (3, .ptr 3 0 THeader []), (7, .dat (.int .i64) (i_1')), (8, .dat (.int .i64) (j'))], [(3, .box 0 true (.dat THeader (h_2')))]⟩) l_1 i h_1 := by kernel_rfl
theorem ref49_Place.l0.eq (n : Nat) (l_1 : (List (List Cube))) (h_1 : Header) : ∀ (m0 : Nat) (i : Int), it (EmR.no _) (ref49_Place.C n) n (Code.go ref49_Place.code [1, 0, 1, 0, 0]) (blockK 0 (seqK (EmR.no _) (ref49_Place.C n) n (Code.go ref49_Place.code [1, 1]) (bodyK (ref49_Place.C n) f32 ref49_Place.rs))) m0 ⟨[(0, .dat (.slc (.slc TCube)) l_1), (3, .ptr 3 0 THeader []), (7, .dat (.int .i64) i)], [(3, .box 0 true (.dat THeader h_1))]⟩ = ref49_Place.l0 n l_1 h_1 m0 i
  | 0, _ => rfl
  | m0 + 1, i =>
    (ref49_Place.l0.step n m0 l_1 i h_1).trans (congr1 (fun k1 => ref49_Place.s0 n k1 l_1 i h_1) (funext fun l_2' => funext fun i_1' => funext fun j' => funext fun h_2' => (ref49_Place.l1.eq n m0 l_2' i_1' h_2' n j').trans (congr1 (fun kk => ref49_Place.l1 n l_2' i_1' h_2' kk n j') (funext fun l_1'' => funext fun i'' => funext fun h_1'' => ref49_Place.l0.eq n l_1'' h_1'' m0 i''))))
theorem ref49_Place.run0 (n : Nat) (x : pdens ref49_Place.ps) : Vi.run (ref49_Place.C n) n f32 ref49_Place.ps ref49_Place.rs x = ref49_Place.s n (fun (l_1' : (List (List Cube))) (i' : Int) (h_1' : Header) => it (EmR.no _) (ref49_Place.C n) n (Code.go ref49_Place.code [1, 0, 1, 0, 0]) (blockK 0 (seqK (EmR.no _) (ref49_Place.C n) n (Code.go ref49_Place.code [1, 1]) (bodyK (ref49_Place.C n) f32 ref49_Place.rs))) n ⟨[(0, .dat (.slc (.slc TCube)) (l_1')), (3, .ptr 3 0 THeader []), (7, .dat (.int .i64) (i'))], [(3, .box 0 true (.dat THeader (h_1')))]⟩) x.1 x.2 := by kernel_rfl
theorem ref49_Place.eq (n : Nat) (x : pdens ref49_Place.ps) : Vi.run (ref49_Place.C n) n f32 ref49_Place.ps ref49_Place.rs x = ref49_Place n x.1 x.2 :=
  (ref49_Place.run0 n x).trans (congr1 (fun k0 => ref49_Place.s n k0 x.1 x.2) (funext fun l_1' => funext fun i' => funext fun h_1' => ref49_Place.l0.eq n l_1' h_1' n i'))
theorem ref49_Place.sound (n : Nat) : SoundE prog 32 (ref49_Place.e n) :=
  soundE_of_run (C := ref49_Place.C n) (n := n) (ref49_Place.ok n) func32 (by kernel_rfl) (by kernel_rfl) (fun x r h => (ref49_Place.eq n x).trans h)

def law49_SliceTells.rs : List RTy := [.data .bool]
def law49_SliceTells.ps : List PTy := [.data TFlat, .data (.int .i64), .data (.int .i64), .data THeader]
noncomputable def law49_SliceTells.e (n : Nat) : Ent := ⟨law49_SliceTells.ps, law49_SliceTells.rs, fun x => law49_SliceTells n x.1 x.2.1 x.2.2.1 x.2.2.2⟩
noncomputable def law49_SliceTells.C (n : Nat) : Ctx := { tab := tab, fts := fts, pts := pts, Γ := lookO [(15, law49_light.e n), (16, law49_awake.e n), (17, slice_All.e n), (25, slice_Rule.e n), (26, ref49_Rule.e n), (27, ref49_All.e n), (28, slices_Equal_Cube.e n), (29, slices_EqualFunc_LCube.e n), (31, slice_Place.e n), (32, ref49_Place.e n)], Γc := lookO [(30, law49_same_c.e n)], Γs := lookO [], Γm := lookO [], Γo := lookO [], ntmps := f6.ntmps, keep := Vi.look ([], []) [], pins := [], cold := [4, 7] }
theorem law49_SliceTells.ok (n : Nat) : CtxOk prog (law49_SliceTells.C n) := ⟨types, ftsOk_, ptsOk_, (fns_cons (law49_light.sound n) (fns_cons (law49_awake.sound n) (fns_cons (slice_All.sound n) (fns_cons (slice_Rule.sound n) (fns_cons (ref49_Rule.sound n) (fns_cons (ref49_All.sound n) (fns_cons (slices_Equal_Cube.sound n) (fns_cons (slices_EqualFunc_LCube.sound n) (fns_cons (slice_Place.sound n) (fns_cons (ref49_Place.sound n) fns_nil)))))))))), (cls_cons (law49_same_c.sound n) cls_nil), sqs_nil, ems_nil, mixed, ons_nil⟩
theorem law49_SliceTells.eq (n : Nat) (x : pdens law49_SliceTells.ps) : Vi.run (law49_SliceTells.C n) n f6 law49_SliceTells.ps law49_SliceTells.rs x = law49_SliceTells n x.1 x.2.1 x.2.2.1 x.2.2.2 := by kernel_rfl
theorem law49_SliceTells.sound (n : Nat) : SoundE prog 6 (law49_SliceTells.e n) :=
  soundE_of_run (C := law49_SliceTells.C n) (n := n) (law49_SliceTells.ok n) func6 (by kernel_rfl) (by kernel_rfl) (fun x r h => (law49_SliceTells.eq n x).trans h)
def law49_SliceTells.g (n : Nat) (x : pdens (law49_SliceTells.τs.map PTy.data)) : Option Bool := law49_SliceTells n x.1 x.2.1 x.2.2.1 x.2.2.2
theorem law49_SliceTells.soundN (n : Nat) : SoundE prog 6 ⟨law49_SliceTells.τs.map PTy.data, [.data .bool], law49_SliceTells.g n⟩ := law49_SliceTells.sound n

def find_has_1.rs : List Ty := [.bool]
def find_has_1.ps : List Ty := [TRule]
def find_has_1.caps : List PTy := [.cptr THeader]
noncomputable def find_has_1.e (n : Nat) : Cl := ⟨find_has_1.ps, find_has_1.caps, find_has_1.rs, fun x c => find_has_1 n x c⟩
noncomputable def find_has_1.C (n : Nat) : Ctx := { tab := tab, fts := fts, pts := pts, Γ := lookO [(19, cube_Has.e n)], Γc := lookO [], Γs := lookO [], Γm := lookO [], Γo := lookO [], ntmps := f113.ntmps, keep := Vi.look ([], []) [], pins := [] }
theorem find_has_1.ok (n : Nat) : CtxOk prog (find_has_1.C n) := ⟨types, ftsOk_, ptsOk_, (fns_cons (cube_Has.sound n) fns_nil), cls_nil, sqs_nil, ems_nil, mixed, ons_nil⟩
theorem find_has_1.eq (n : Nat) (x : dens find_has_1.ps) (c : pdens find_has_1.caps) : Vi.runC (find_has_1.C n) n f113 find_has_1.ps find_has_1.caps find_has_1.rs x c = find_has_1 n x c := by kernel_rfl
theorem find_has_1.sound (n : Nat) : SoundC prog 113 (find_has_1.e n) :=
  soundC_of_run (C := find_has_1.C n) (n := n) (find_has_1.ok n) func113 (by kernel_rfl) (by kernel_rfl) (fun x c r h => (find_has_1.eq n x c).trans h)

def find_has.rs : List RTy := [.fnr [TRule] [.bool]]
def find_has.ps : List PTy := [.data THeader]
noncomputable def find_has.e (n : Nat) : Ent := ⟨find_has.ps, find_has.rs, fun x => find_has n x⟩
noncomputable def find_has.C (n : Nat) : Ctx := { tab := tab, fts := fts, pts := pts, Γ := lookO [], Γc := lookO [(113, find_has_1.e n)], Γs := lookO [], Γm := lookO [], Γo := lookO [], ntmps := f67.ntmps, keep := Vi.look ([], []) [], pins := [], cold := [1] }
theorem find_has.ok (n : Nat) : CtxOk prog (find_has.C n) := ⟨types, ftsOk_, ptsOk_, fns_nil, (cls_cons (find_has_1.sound n) cls_nil), sqs_nil, ems_nil, mixed, ons_nil⟩
theorem find_has.eq (n : Nat) (x : pdens find_has.ps) : Vi.run (find_has.C n) n f67 find_has.ps find_has.rs x = find_has n x := by kernel_rfl
theorem find_has.sound (n : Nat) : SoundE prog 67 (find_has.e n) :=
  soundE_of_run (C := find_has.C n) (n := n) (find_has.ok n) func67 (by kernel_rfl) (by kernel_rfl) (fun x r h => (find_has.eq n x).trans h)

def find_Find.rs : List RTy := [.data (.int .i64), .data .bool]
def find_Find.ps : List PTy := [.data TFlat, .data THeader]
noncomputable def find_Find.e (n : Nat) : Ent := ⟨find_Find.ps, find_Find.rs, fun x => find_Find n x.1 x.2⟩
noncomputable def find_Find.C (n : Nat) : Ctx := { tab := tab, fts := fts, pts := pts, Γ := lookO [(66, slices_IndexFunc_Rule.e n), (67, find_has.e n)], Γc := lookO [], Γs := lookO [], Γm := lookO [], Γo := lookO [], ntmps := f18.ntmps, keep := Vi.look ([], []) [], pins := [], cold := [3] }
theorem find_Find.ok (n : Nat) : CtxOk prog (find_Find.C n) := ⟨types, ftsOk_, ptsOk_, (fns_cons (slices_IndexFunc_Rule.sound n) (fns_cons (find_has.sound n) fns_nil)), cls_nil, sqs_nil, ems_nil, mixed, ons_nil⟩
theorem find_Find.eq (n : Nat) (x : pdens find_Find.ps) : Vi.run (find_Find.C n) n f18 find_Find.ps find_Find.rs x = find_Find n x.1 x.2 := by kernel_rfl
theorem find_Find.sound (n : Nat) : SoundE prog 18 (find_Find.e n) :=
  soundE_of_run (C := find_Find.C n) (n := n) (find_Find.ok n) func18 (by kernel_rfl) (by kernel_rfl) (fun x r h => (find_Find.eq n x).trans h)

def law49_SliceOnce.rs : List RTy := [.data .bool]
def law49_SliceOnce.ps : List PTy := [.data TFlat, .data (.int .i64), .data THeader]
noncomputable def law49_SliceOnce.e (n : Nat) : Ent := ⟨law49_SliceOnce.ps, law49_SliceOnce.rs, fun x => law49_SliceOnce n x.1 x.2.1 x.2.2⟩
noncomputable def law49_SliceOnce.C (n : Nat) : Ctx := { tab := tab, fts := fts, pts := pts, Γ := lookO [(15, law49_light.e n), (16, law49_awake.e n), (17, ⟨slice_All.ps, [.data (.slc (.slc TCube)), .data (.int .i64)], (slice_All.e n).g⟩), (18, find_Find.e n), (19, cube_Has.e n)], Γc := lookO [], Γs := lookO [], Γm := lookO [], Γo := lookO [], ntmps := f3.ntmps, keep := Vi.look ([], []) [(8, ([3, 5, 7, 9, 10, 45, 46, 47], [3, 5])), (12, ([3, 5, 7, 9, 10, 11, 13, 45, 46, 47, 52, 53, 54], [3, 5]))], pins := [], cold := [5] }
theorem law49_SliceOnce.ok (n : Nat) : CtxOk prog (law49_SliceOnce.C n) := ⟨types, ftsOk_, ptsOk_, (fns_cons (law49_light.sound n) (fns_cons (law49_awake.sound n) (fns_cons (soundE_weak2 (slice_All.sound n)) (fns_cons (find_Find.sound n) (fns_cons (cube_Has.sound n) fns_nil))))), cls_nil, sqs_nil, ems_nil, mixed, ons_nil⟩
noncomputable def law49_SliceOnce.code : Code := bodyOf f3
theorem law49_SliceOnce.l1.step (n : Nat) (m0 : Nat) (m1 : Nat) (l_1 : (List (List Cube))) (at9_1 : Int) (ok_1 : Bool) (i : Int) (n13 : Int) (v45_1 : (List (List Cube))) (v46_1 : Int) (v47_1 : Int) (v52 : (List Cube)) (v53 : Int) (v54 : Int) (f_2 : Flat) (h_2 : Header) : it (EmR.no _) (law49_SliceOnce.C n) n (Code.go law49_SliceOnce.code [1, 1, 1, 1, 1, 0, 1, 0, 0, 1, 1, 0, 0, 1, 1, 0, 1, 0, 0]) (blockK 2 (seqK (EmR.no _) (law49_SliceOnce.C n) n (Code.go law49_SliceOnce.code [1, 1, 1, 1, 1, 0, 1, 0, 0, 1, 1, 0, 0, 1, 1, 1]) (blockK 1 (seqK (EmR.no _) (law49_SliceOnce.C n) n (Code.go law49_SliceOnce.code [1, 1, 1, 1, 1, 0, 1, 0, 0, 1, 1, 1]) (loopK (EmR.no _) (law49_SliceOnce.C n) n (Code.go law49_SliceOnce.code [1, 1, 1, 1, 1, 0, 1, 0, 0]) (blockK 0 (seqK (EmR.no _) (law49_SliceOnce.C n) n (Code.go law49_SliceOnce.code [1, 1, 1, 1, 1, 1]) (bodyK (law49_SliceOnce.C n) f3 law49_SliceOnce.rs))) m0))))) (m1 + 1) ⟨[(3, .ptr 3 0 TFlat []), (5, .ptr 5 0 THeader []), (7, .dat (.slc (.slc TCube)) l_1), (9, .dat (.int .i64) at9_1), (10, .dat .bool ok_1), (11, .dat (.int .i64) i), (13, .dat (.int .i64) n13), (45, .dat (.slc (.slc TCube)) v45_1), (46, .dat (.int .i64) v46_1), (47, .dat (.int .i64) v47_1), (52, .dat (.slc TCube) v52), (53, .dat (.int .i64) v53), (54, .dat (.int .i64) v54)], [(3, .box 0 false (.dat TFlat f_2)), (5, .box 0 true (.dat THeader h_2))]⟩ = law49_SliceOnce.s1 n (fun (n13' : Int) (v54' : Int) => it (EmR.no _) (law49_SliceOnce.C n) n (Code.go law49_SliceOnce.code [1, 1, 1, 1, 1, 0, 1, 0, 0, 1, 1, 0, 0, 1, 1, 0, 1, 0, 0]) (blockK 2 (seqK (EmR.no _) (law49_SliceOnce.C n) n (Code.go law49_SliceOnce.code [1, 1, 1, 1, 1, 0, 1, 0, 0, 1, 1, 0, 0, 1, 1, 1]) (blockK 1 (seqK (EmR.no _) (law49_SliceOnce.C n) n (Code.go law49_SliceOnce.code [1, 1, 1, 1, 1, 0, 1, 0, 0, 1, 1, 1]) (loopK (EmR.no _) (law49_SliceOnce.C n) n (Code.go law49_SliceOnce.code [1, 1, 1, 1, 1, 0, 1, 0, 0]) (blockK 0 (seqK (EmR.no _) (law49_SliceOnce.C n) n (Code.go law49_SliceOnce.code [1, 1, 1, 1, 1, 1]) (bodyK (law49_SliceOnce.C n) f3 law49_SliceOnce.rs))) m0))))) m1 ⟨[(3, .ptr 3 0 TFlat []), (5, .ptr 5 0 THeader []), (7, .dat (.slc (.slc TCube)) l_1), (9, .dat (.int .i64) at9_1), (10, .dat .bool ok_1), (11, .dat (.int .i64) i), (13, .dat (.int .i64) (n13')), (45, .dat (.slc (.slc TCube)) v45_1), (46, .dat (.int .i64) v46_1), (47, .dat (.int .i64) v47_1), (52, .dat (.slc TCube) v52), (53, .dat (.int .i64) v53), (54, .dat (.int .i64) (v54'))], [(3, .box 0 false (.dat TFlat f_2)), (5, .box 0 true (.dat THeader h_2))]⟩) (fun (l' : (List (List Cube))) (at9' : Int) (ok' : Bool) (v45' : (List (List Cube))) (v46' : Int) (v47' : Int) (f_1' : Flat) (h_1' : Header) => it (EmR.no _) (law49_SliceOnce.C n) n (Code.go law49_SliceOnce.code [1, 1, 1, 1, 1, 0, 1, 0, 0]) (blockK 0 (seqK (EmR.no _) (law49_SliceOnce.C n) n (Code.go law49_SliceOnce.code [1, 1, 1, 1, 1, 1]) (bodyK (law49_SliceOnce.C n) f3 law49_SliceOnce.rs))) m0 ⟨[(3, .ptr 3 0 TFlat []), (5, .ptr 5 0 THeader []), (7, .dat (.slc (.slc TCube)) (l')), (9, .dat (.int .i64) (at9')), (10, .dat .bool (ok')), (45, .dat (.slc (.slc TCube)) (v45')), (46, .dat (.int .i64) (v46')), (47, .dat (.int .i64) (v47'))], [(3, .box 0 false (.dat TFlat (f_1'))), (5, .box 0 true (.dat THeader (h_1')))]⟩) l_1 at9_1 ok_1 i n13 v45_1 v46_1 v47_1 v52 v53 v54 f_2 h_2 := by kernel_rfl
theorem law49_SliceOnce.l1.eq (n : Nat) (m0 : Nat) (l_1 : (List (List Cube))) (at9_1 : Int) (ok_1 : Bool) (i : Int) (v45_1 : (List (List Cube))) (v46_1 : Int) (v47_1 : Int) (v52 : (List Cube)) (v53 : Int) (f_2 : Flat) (h_2 : Header) : ∀ (m1 : Nat) (n13 : Int) (v54 : Int), it (EmR.no _) (law49_SliceOnce.C n) n (Code.go law49_SliceOnce.code [1, 1, 1, 1, 1, 0, 1, 0, 0, 1, 1, 0, 0, 1, 1, 0, 1, 0, 0]) (blockK 2 (seqK (EmR.no _) (law49_SliceOnce.C n) n (Code.go law49_SliceOnce.code [1, 1, 1, 1, 1, 0, 1, 0, 0, 1, 1, 0, 0, 1, 1, 1]) (blockK 1 (seqK (EmR.no _) (law49_SliceOnce.C n) n (Code.go law49_SliceOnce.code [1, 1, 1, 1, 1, 0, 1, 0, 0, 1, 1, 1]) (loopK (EmR.no _) (law49_SliceOnce.C n) n (Code.go law49_SliceOnce.code [1, 1, 1, 1, 1, 0, 1, 0, 0]) (blockK 0 (seqK (EmR.no _) (law49_SliceOnce.C n) n (Code.go law49_SliceOnce.code [1, 1, 1, 1, 1, 1]) (bodyK (law49_SliceOnce.C n) f3 law49_SliceOnce.rs))) m0))))) m1 ⟨[(3, .ptr 3 0 TFlat []), (5, .ptr 5 0 THeader []), (7, .dat (.slc (.slc TCube)) l_1), (9, .dat (.int .i64) at9_1), (10, .dat .bool ok_1), (11, .dat (.int .i64) i), (13, .dat (.int .i64) n13), (45, .dat (.slc (.slc TCube)) v45_1), (46, .dat (.int .i64) v46_1), (47, .dat (.int .i64) v47_1), (52, .dat (.slc TCube) v52), (53, .dat (.int .i64) v53), (54, .dat (.int .i64) v54)], [(3, .box 0 false (.dat TFlat f_2)), (5, .box 0 true (.dat THeader h_2))]⟩ = law49_SliceOnce.l1 n l_1 at9_1 ok_1 i v45_1 v46_1 v47_1 v52 v53 f_2 h_2 (fun (l'' : (List (List Cube))) (at9'' : Int) (ok'' : Bool) (v45'' : (List (List Cube))) (v46'' : Int) (v47'' : Int) (f_1'' : Flat) (h_1'' : Header) => it (EmR.no _) (law49_SliceOnce.C n) n (Code.go law49_SliceOnce.code [1, 1, 1, 1, 1, 0, 1, 0, 0]) (blockK 0 (seqK (EmR.no _) (law49_SliceOnce.C n) n (Code.go law49_SliceOnce.code [1, 1, 1, 1, 1, 1]) (bodyK (law49_SliceOnce.C n) f3 law49_SliceOnce.rs))) m0 ⟨[(3, .ptr 3 0 TFlat []), (5, .ptr 5 0 THeader []), (7, .dat (.slc (.slc TCube)) (l'')), (9, .dat (.int .i64) (at9'')), (10, .dat .bool (ok'')), (45, .dat (.slc (.slc TCube)) (v45'')), (46, .dat (.int .i64) (v46'')), (47, .dat (.int .i64) (v47''))], [(3, .box 0 false (.dat TFlat (f_1''))), (5, .box 0 true (.dat THeader (h_1'')))]⟩) m1 n13 v54
  | 0, _, _ => rfl
  | m1 + 1, n13, v54 =>
    (law49_SliceOnce.l1.step n m0 m1 l_1 at9_1 ok_1 i n13 v45_1 v46_1 v47_1 v52 v53 v54 f_2 h_2).trans (congr2 (fun k1 k0 => law49_SliceOnce.s1 n k1 k0 l_1 at9_1 ok_1 i n13 v45_1 v46_1 v47_1 v52 v53 v54 f_2 h_2) (funext fun n13' => funext fun v54' => law49_SliceOnce.l1.eq n m0 l_1 at9_1 ok_1 i v45_1 v46_1 v47_1 v52 v53 f_2 h_2 m1 n13' v54') rfl)
theorem law49_SliceOnce.l0.step (n : Nat) (m0 : Nat) (l : (List (List Cube))) (at9 : Int) (ok : Bool) (v45 : (List (List Cube))) (v46 : Int) (v47 : Int) (f_1 : Flat) (h_1 : Header) : it (EmR.no _) (law49_SliceOnce.C n) n (Code.go law49_SliceOnce.code [1, 1, 1, 1, 1, 0, 1, 0, 0]) (blockK 0 (seqK (EmR.no _) (law49_SliceOnce.C n) n (Code.go law49_SliceOnce.code [1, 1, 1, 1, 1, 1]) (bodyK (law49_SliceOnce.C n) f3 law49_SliceOnce.rs))) (m0 + 1) ⟨[(3, .ptr 3 0 TFlat []), (5, .ptr 5 0 THeader []), (7, .dat (.slc (.slc TCube)) l), (9, .dat (.int .i64) at9), (10, .dat .bool ok), (45, .dat (.slc (.slc TCube)) v45), (46, .dat (.int .i64) v46), (47, .dat (.int .i64) v47)], [(3, .box 0 false (.dat TFlat f_1)), (5, .box 0 true (.dat THeader h_1))]⟩ = law49_SliceOnce.s0 n (fun (l_1' : (List (List Cube))) (at9_1' : Int) (ok_1' : Bool) (i' : Int) (n13' : Int) (v45_1' : (List (List Cube))) (v46_1' : Int) (v47_1' : Int) (v52' : (List Cube)) (v53' : Int) (v54' : Int) (f_2' : Flat) (h_2' : Header) => it (EmR.no _) (law49_SliceOnce.C n) n (Code.go law49_SliceOnce.code [1, 1, 1, 1, 1, 0, 1, 0, 0, 1, 1, 0, 0, 1, 1, 0, 1, 0, 0]) (blockK 2 (seqK (EmR.no _) (law49_SliceOnce.C n) n (Code.go law49_SliceOnce.code [1, 1, 1, 1, 1, 0, 1, 0, 0, 1, 1, 0, 0, 1, 1, 1]) (blockK 1 (seqK (EmR.no _) (law49_SliceOnce.C n) n (Code.go law49_SliceOnce.code [1, 1, 1, 1, 1, 0, 1, 0, 0, 1, 1, 1]) (loopK (EmR.no _) (law49_SliceOnce.C n) n (Code.go law49_SliceOnce.code [1, 1, 1, 1, 1, 0, 1, 0, 0]) (blockK 0 (seqK (EmR.no _) (law49_SliceOnce.C n) n (Code.go law49_SliceOnce.code [1, 1, 1, 1, 1, 1]) (bodyK (law49_SliceOnce.C n) f3 law49_SliceOnce.rs))) m0))))) n ⟨[(3, .ptr 3 0 TFlat []), (5, .ptr 5 0 THeader []), (7, .dat (.slc (.slc TCube)) (l_1')), (9, .dat (.int .i64) (at9_1')), (10, .dat .bool (ok_1')), (11, .dat (.int .i64) (i')), (13, .dat (.int .i64) (n13')), (45, .dat (.slc (.slc TCube)) (v45_1')), (46, .dat (.int .i64) (v46_1')), (47, .dat (.int .i64) (v47_1')), (52, .dat (.slc TCube) (v52')), (53, .dat (.int .i64) (v53')), (54, .dat (.int .i64) (v54'))], [(3, .box 0 false (.dat TFlat (f_2'))), (5, .box 0 true (.dat THeader (h_2')))]⟩) l at9 ok v45 v46 v47 f_1 h_1 := by kernel_rfl
theorem law49_SliceOnce.l0.eq (n : Nat) (l : (List (List Cube))) (at9 : Int) (ok : Bool) (v45 : (List (List Cube))) (v46 : Int) (f_1 : Flat) (h_1 : Header) : ∀ (m0 : Nat) (v47 : Int), it (EmR.no _) (law49_SliceOnce.C n) n (Code.go law49_SliceOnce.code [1, 1, 1, 1, 1, 0, 1, 0, 0]) (blockK 0 (seqK (EmR.no _) (law49_SliceOnce.C n) n (Code.go law49_SliceOnce.code [1, 1, 1, 1, 1, 1]) (bodyK (law49_SliceOnce.C n) f3 law49_SliceOnce.rs))) m0 ⟨[(3, .ptr 3 0 TFlat []), (5, .ptr 5 0 THeader []), (7, .dat (.slc (.slc TCube)) l), (9, .dat (.int .i64) at9), (10, .dat .bool ok), (45, .dat (.slc (.slc TCube)) v45), (46, .dat (.int .i64) v46), (47, .dat (.int .i64) v47)], [(3, .box 0 false (.dat TFlat f_1)), (5, .box 0 true (.dat THeader h_1))]⟩ = law49_SliceOnce.l0 n l at9 ok v45 v46 f_1 h_1 m0 v47
  | 0, _ => rfl
  | m0 + 1, v47 =>
    (law49_SliceOnce.l0.step n m0 l at9 ok v45 v46 v47 f_1 h_1).trans (congr1 (fun k1 => law49_SliceOnce.s0 n k1 l at9 ok v45 v46 v47 f_1 h_1) (funext fun l_1' => funext fun at9_1' => funext fun ok_1' => funext fun i' => funext fun n13' => funext fun v45_1' => funext fun v46_1' => funext fun v47_1' => funext fun v52' => funext fun v53' => funext fun v54' => funext fun f_2' => funext fun h_2' => (law49_SliceOnce.l1.eq n m0 l_1' at9_1' ok_1' i' v45_1' v46_1' v47_1' v52' v53' f_2' h_2' n n13' v54').trans (congr1 (fun kk => law49_SliceOnce.l1 n l_1' at9_1' ok_1' i' v45_1' v46_1' v47_1' v52' v53' f_2' h_2' kk n n13' v54') (funext fun l'' => funext fun at9'' => funext fun ok'' => funext fun v45'' => funext fun v46'' => funext fun v47'' => funext fun f_1'' => funext fun h_1'' => law49_SliceOnce.l0.eq n l'' at9'' ok'' v45'' v46'' f_1'' h_1'' m0 v47''))))
theorem law49_SliceOnce.run0 (n : Nat) (x : pdens law49_SliceOnce.ps) : Vi.run (law49_SliceOnce.C n) n f3 law49_SliceOnce.ps law49_SliceOnce.rs x = law49_SliceOnce.s n (fun (l' : (List (List Cube))) (at9' : Int) (ok' : Bool) (v45' : (List (List Cube))) (v46' : Int) (v47' : Int) (f_1' : Flat) (h_1' : Header) => it (EmR.no _) (law49_SliceOnce.C n) n (Code.go law49_SliceOnce.code [1, 1, 1, 1, 1, 0, 1, 0, 0]) (blockK 0 (seqK (EmR.no _) (law49_SliceOnce.C n) n (Code.go law49_SliceOnce.code [1, 1, 1, 1, 1, 1]) (bodyK (law49_SliceOnce.C n) f3 law49_SliceOnce.rs))) n ⟨[(3, .ptr 3 0 TFlat []), (5, .ptr 5 0 THeader []), (7, .dat (.slc (.slc TCube)) (l')), (9, .dat (.int .i64) (at9')), (10, .dat .bool (ok')), (45, .dat (.slc (.slc TCube)) (v45')), (46, .dat (.int .i64) (v46')), (47, .dat (.int .i64) (v47'))], [(3, .box 0 false (.dat TFlat (f_1'))), (5, .box 0 true (.dat THeader (h_1')))]⟩) x.1 x.2.1 x.2.2 := by kernel_rfl
theorem law49_SliceOnce.eq (n : Nat) (x : pdens law49_SliceOnce.ps) : Vi.run (law49_SliceOnce.C n) n f3 law49_SliceOnce.ps law49_SliceOnce.rs x = law49_SliceOnce n x.1 x.2.1 x.2.2 :=
  (law49_SliceOnce.run0 n x).trans (congr1 (fun k0 => law49_SliceOnce.s n k0 x.1 x.2.1 x.2.2) (funext fun l' => funext fun at9' => funext fun ok' => funext fun v45' => funext fun v46' => funext fun v47' => funext fun f_1' => funext fun h_1' => law49_SliceOnce.l0.eq n l' at9' ok' v45' v46' f_1' h_1' n v47'))
theorem law49_SliceOnce.sound (n : Nat) : SoundE prog 3 (law49_SliceOnce.e n) :=
  soundE_of_run (C := law49_SliceOnce.C n) (n := n) (law49_SliceOnce.ok n) func3 (by kernel_rfl) (by kernel_rfl) (fun x r h => (law49_SliceOnce.eq n x).trans h)
def law49_SliceOnce.g (n : Nat) (x : pdens (law49_SliceOnce.τs.map PTy.data)) : Option Bool := law49_SliceOnce n x.1 x.2.1 x.2.2
theorem law49_SliceOnce.soundN (n : Nat) : SoundE prog 3 ⟨law49_SliceOnce.τs.map PTy.data, [.data .bool], law49_SliceOnce.g n⟩ := law49_SliceOnce.sound n

def law49_SliceMore.rs : List RTy := [.data .bool]
def law49_SliceMore.ps : List PTy := [.data TFlat, .data (.int .u8), .data (.int .u8)]
noncomputable def law49_SliceMore.e (n : Nat) : Ent := ⟨law49_SliceMore.ps, law49_SliceMore.rs, fun x => law49_SliceMore n x.1 x.2.1 x.2.2⟩
noncomputable def law49_SliceMore.C (n : Nat) : Ctx := { tab := tab, fts := fts, pts := pts, Γ := lookO [(15, law49_light.e n), (16, law49_awake.e n), (17, slice_All.e n), (29, slices_EqualFunc_LCube.e n)], Γc := lookO [(30, law49_same_c.e n)], Γs := lookO [], Γm := lookO [], Γo := lookO [], ntmps := f7.ntmps, keep := Vi.look ([], []) [], pins := [], cold := [3] }
theorem law49_SliceMore.ok (n : Nat) : CtxOk prog (law49_SliceMore.C n) := ⟨types, ftsOk_, ptsOk_, (fns_cons (law49_light.sound n) (fns_cons (law49_awake.sound n) (fns_cons (slice_All.sound n) (fns_cons (slices_EqualFunc_LCube.sound n) fns_nil)))), (cls_cons (law49_same_c.sound n) cls_nil), sqs_nil, ems_nil, mixed, ons_nil⟩
theorem law49_SliceMore.eq (n : Nat) (x : pdens law49_SliceMore.ps) : Vi.run (law49_SliceMore.C n) n f7 law49_SliceMore.ps law49_SliceMore.rs x = law49_SliceMore n x.1 x.2.1 x.2.2 := by kernel_rfl
theorem law49_SliceMore.sound (n : Nat) : SoundE prog 7 (law49_SliceMore.e n) :=
  soundE_of_run (C := law49_SliceMore.C n) (n := n) (law49_SliceMore.ok n) func7 (by kernel_rfl) (by kernel_rfl) (fun x r h => (law49_SliceMore.eq n x).trans h)
def law49_SliceMore.g (n : Nat) (x : pdens (law49_SliceMore.τs.map PTy.data)) : Option Bool := law49_SliceMore n x.1 x.2.1 x.2.2
theorem law49_SliceMore.soundN (n : Nat) : SoundE prog 7 ⟨law49_SliceMore.τs.map PTy.data, [.data .bool], law49_SliceMore.g n⟩ := law49_SliceMore.sound n

end Go.Fn
