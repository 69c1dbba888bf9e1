/- That the functions compute what their native texts say: written by the session's program gen.py out of the translation. -/
import Derived.Test.YtoambohdjnbobaaViZ
import Derived.Test.YtoambohdjnbobaaN
import Derived.Test.YtoambohdjnbobaaProg
set_option linter.unusedVariables false
set_option maxRecDepth 100000
namespace Go.Fn
open Go Go.Vi Go.Proofs.Try

def tab : List (Nat × TE) := [(3, ⟨(.int .i64), 0, 0⟩), (4, ⟨.bool, 0, 0⟩), (5, ⟨(.int .u8), 0, 0⟩), (21, ⟨(.int .i32), 0, 0⟩), (22, ⟨(.slc (.int .u8)), 0, 1⟩), (23, ⟨(.int .i64), 0, 0⟩), (28, ⟨(.int .u32), 0, 0⟩), (29, ⟨(.slc (.int .i64)), 0, 8⟩), (35, ⟨(.int .u64), 0, 0⟩), (37, ⟨TWide, 2, 0⟩), (39, ⟨TTern, 2, 0⟩), (41, ⟨TRewrite, 0, 0⟩), (42, ⟨TRewrite, 0, 0⟩), (44, ⟨THeader, 0, 0⟩), (57, ⟨TEnv, 2, 0⟩), (58, ⟨(.slc TBucket), 0, 48⟩), (60, ⟨TGroup, 3, 0⟩), (66, ⟨(.int .i16), 0, 0⟩), (69, ⟨(.slc TAction), 0, 88⟩), (71, ⟨TBucket, 4, 0⟩), (79, ⟨(.arr 4 (.int .u8)), 0, 0⟩), (90, ⟨TWorld, 2, 0⟩), (111, ⟨TOxm, 4, 0⟩), (113, ⟨TAction, 6, 0⟩)]
def fts : List Nat := []
theorem tabOk_ : tabOk prog tab = true := by kernel_rfl
theorem types : Types prog tab := Types.of tabOk_
theorem ftsOk_ : ftsOk prog fts = true := by kernel_rfl
theorem mixed : prog.follows .mixedOrders = true := by kernel_rfl

def num_sized.rs : List RTy := [.data .bool]
def num_sized.ps : List PTy := [.data (.int .i64)]
noncomputable def num_sized.e (n : Nat) : Ent := ⟨num_sized.ps, num_sized.rs, fun x => some (num_sized x)⟩
noncomputable def num_sized.C (n : Nat) : Ctx := { tab := tab, fts := fts, Γ := lookO [], Γc := lookO [], ntmps := f51.ntmps, keep := Vi.look ([], []) [] }
theorem num_sized.ok (n : Nat) : CtxOk prog (num_sized.C n) := ⟨types, ftsOk_, fns_nil, cls_nil, mixed⟩
theorem num_sized.run0 (n : Nat) (x : pdens num_sized.ps) : Vi.run (num_sized.C n) n f51 num_sized.ps num_sized.rs x = num_sized.o x := by kernel_rfl
theorem num_sized.eq (n : Nat) (x : pdens num_sized.ps) : Vi.run (num_sized.C n) n f51 num_sized.ps num_sized.rs x = some (num_sized x) := (num_sized.run0 n x).trans (num_sized.o_eq _)
theorem num_sized.sound (n : Nat) : SoundE prog 51 (num_sized.e n) :=
  soundE_of_run (C := num_sized.C n) (n := n) (num_sized.ok n) func51 (by kernel_rfl) (by kernel_rfl) (fun x r h => (num_sized.eq n x).trans h)

def num_Get.rs : List RTy := [.data (.int .i64), .data (.int .i64)]
def num_Get.ps : List PTy := [.data (.slc (.int .u8)), .data (.int .i64), .data (.int .i64)]
noncomputable def num_Get.e (n : Nat) : Ent := ⟨num_Get.ps, num_Get.rs, fun x => num_Get n x.1 x.2.1 x.2.2⟩
noncomputable def num_Get.C (n : Nat) : Ctx := { tab := tab, fts := fts, Γ := lookO [(51, num_sized.e n)], Γc := lookO [], ntmps := f15.ntmps, keep := Vi.look ([], []) [(7, ([8, 29, 30, 31], []))] }
theorem num_Get.ok (n : Nat) : CtxOk prog (num_Get.C n) := ⟨types, ftsOk_, (fns_cons (num_sized.sound n) fns_nil), cls_nil, mixed⟩
noncomputable def num_Get.code : Code := bodyOf f15
theorem num_Get.l0.step (n m0 : Nat) (n8 : Int) (v29 : (List Int)) (v30 : Int) (v31 : Int) : it (num_Get.C n) n (Code.go num_Get.code [1, 1, 1, 1, 0, 1, 0, 0]) (blockK 0 (seqK (num_Get.C n) n (Code.go num_Get.code [1, 1, 1, 1, 1]) (bodyK (num_Get.C n) f15 num_Get.rs))) (m0 + 1) ⟨[(8, .dat (.int .i64) n8), (29, .dat (.slc (.int .u8)) v29), (30, .dat (.int .i64) v30), (31, .dat (.int .i64) v31)], []⟩ = num_Get.s0 n (fun (n8' : Int) (v31' : Int) => it (num_Get.C n) n (Code.go num_Get.code [1, 1, 1, 1, 0, 1, 0, 0]) (blockK 0 (seqK (num_Get.C n) n (Code.go num_Get.code [1, 1, 1, 1, 1]) (bodyK (num_Get.C n) f15 num_Get.rs))) m0 ⟨[(8, .dat (.int .i64) (n8')), (29, .dat (.slc (.int .u8)) v29), (30, .dat (.int .i64) v30), (31, .dat (.int .i64) (v31'))], []⟩) n8 v29 v30 v31 := by kernel_rfl
theorem num_Get.l0.eq (n : Nat) (v29 : (List Int)) (v30 : Int) : ∀ (m0 : Nat) (n8 : Int) (v31 : Int), it (num_Get.C n) n (Code.go num_Get.code [1, 1, 1, 1, 0, 1, 0, 0]) (blockK 0 (seqK (num_Get.C n) n (Code.go num_Get.code [1, 1, 1, 1, 1]) (bodyK (num_Get.C n) f15 num_Get.rs))) m0 ⟨[(8, .dat (.int .i64) n8), (29, .dat (.slc (.int .u8)) v29), (30, .dat (.int .i64) v30), (31, .dat (.int .i64) v31)], []⟩ = num_Get.l0 n v29 v30 m0 n8 v31
  | 0, _, _ => rfl
  | m0 + 1, n8, v31 =>
    (num_Get.l0.step n m0 n8 v29 v30 v31).trans (congrArg (fun k0 => num_Get.s0 n k0 n8 v29 v30 v31) (funext fun n8' => funext fun v31' => num_Get.l0.eq n v29 v30 m0 n8' v31'))
theorem num_Get.run0 (n : Nat) (x : pdens num_Get.ps) : Vi.run (num_Get.C n) n f15 num_Get.ps num_Get.rs x = num_Get.s n (fun (n8' : Int) (v29' : (List Int)) (v30' : Int) (v31' : Int) => it (num_Get.C n) n (Code.go num_Get.code [1, 1, 1, 1, 0, 1, 0, 0]) (blockK 0 (seqK (num_Get.C n) n (Code.go num_Get.code [1, 1, 1, 1, 1]) (bodyK (num_Get.C n) f15 num_Get.rs))) n ⟨[(8, .dat (.int .i64) (n8')), (29, .dat (.slc (.int .u8)) (v29')), (30, .dat (.int .i64) (v30')), (31, .dat (.int .i64) (v31'))], []⟩) x.1 x.2.1 x.2.2 := by kernel_rfl
theorem num_Get.eq (n : Nat) (x : pdens num_Get.ps) : Vi.run (num_Get.C n) n f15 num_Get.ps num_Get.rs x = num_Get n x.1 x.2.1 x.2.2 :=
  (num_Get.run0 n x).trans (congrArg (fun k0 => num_Get.s n k0 x.1 x.2.1 x.2.2) (funext fun n8' => funext fun v29' => funext fun v30' => funext fun v31' => num_Get.l0.eq n v29' v30' n n8' v31'))
theorem num_Get.sound (n : Nat) : SoundE prog 15 (num_Get.e n) :=
  soundE_of_run (C := num_Get.C n) (n := n) (num_Get.ok n) func15 (by kernel_rfl) (by kernel_rfl) (fun x r h => (num_Get.eq n x).trans h)

def ref01_Get.rs : List RTy := [.data (.int .i64), .data (.int .i64)]
def ref01_Get.ps : List PTy := [.data (.slc (.int .u8)), .data (.int .i64), .data (.int .i64)]
noncomputable def ref01_Get.e (n : Nat) : Ent := ⟨ref01_Get.ps, ref01_Get.rs, fun x => ref01_Get n x.1 x.2.1 x.2.2⟩
noncomputable def ref01_Get.C (n : Nat) : Ctx := { tab := tab, fts := fts, Γ := lookO [], Γc := lookO [], ntmps := f16.ntmps, keep := Vi.look ([], []) [(7, ([0, 1, 2, 8, 9], []))] }
theorem ref01_Get.ok (n : Nat) : CtxOk prog (ref01_Get.C n) := ⟨types, ftsOk_, fns_nil, cls_nil, mixed⟩
noncomputable def ref01_Get.code : Code := bodyOf f16
theorem ref01_Get.l0.step (n m0 : Nat) (b_1 : (List Int)) (at1_1 : Int) (size_1 : Int) (n8 : Int) (i : Int) : it (ref01_Get.C n) n (Code.go ref01_Get.code [1, 1, 1, 1, 0, 1, 0, 0]) (blockK 0 (seqK (ref01_Get.C n) n (Code.go ref01_Get.code [1, 1, 1, 1, 1]) (bodyK (ref01_Get.C n) f16 ref01_Get.rs))) (m0 + 1) ⟨[(0, .dat (.slc (.int .u8)) b_1), (1, .dat (.int .i64) at1_1), (2, .dat (.int .i64) size_1), (8, .dat (.int .i64) n8), (9, .dat (.int .i64) i)], []⟩ = ref01_Get.s0 n (fun (n8' : Int) (i' : Int) => it (ref01_Get.C n) n (Code.go ref01_Get.code [1, 1, 1, 1, 0, 1, 0, 0]) (blockK 0 (seqK (ref01_Get.C n) n (Code.go ref01_Get.code [1, 1, 1, 1, 1]) (bodyK (ref01_Get.C n) f16 ref01_Get.rs))) m0 ⟨[(0, .dat (.slc (.int .u8)) b_1), (1, .dat (.int .i64) at1_1), (2, .dat (.int .i64) size_1), (8, .dat (.int .i64) (n8')), (9, .dat (.int .i64) (i'))], []⟩) b_1 at1_1 size_1 n8 i := by kernel_rfl
theorem ref01_Get.l0.eq (n : Nat) (b_1 : (List Int)) (at1_1 : Int) (size_1 : Int) : ∀ (m0 : Nat) (n8 : Int) (i : Int), it (ref01_Get.C n) n (Code.go ref01_Get.code [1, 1, 1, 1, 0, 1, 0, 0]) (blockK 0 (seqK (ref01_Get.C n) n (Code.go ref01_Get.code [1, 1, 1, 1, 1]) (bodyK (ref01_Get.C n) f16 ref01_Get.rs))) m0 ⟨[(0, .dat (.slc (.int .u8)) b_1), (1, .dat (.int .i64) at1_1), (2, .dat (.int .i64) size_1), (8, .dat (.int .i64) n8), (9, .dat (.int .i64) i)], []⟩ = ref01_Get.l0 n b_1 at1_1 size_1 m0 n8 i
  | 0, _, _ => rfl
  | m0 + 1, n8, i =>
    (ref01_Get.l0.step n m0 b_1 at1_1 size_1 n8 i).trans (congrArg (fun k0 => ref01_Get.s0 n k0 b_1 at1_1 size_1 n8 i) (funext fun n8' => funext fun i' => ref01_Get.l0.eq n b_1 at1_1 size_1 m0 n8' i'))
theorem ref01_Get.run0 (n : Nat) (x : pdens ref01_Get.ps) : Vi.run (ref01_Get.C n) n f16 ref01_Get.ps ref01_Get.rs x = ref01_Get.s n (fun (b_1' : (List Int)) (at1_1' : Int) (size_1' : Int) (n8' : Int) (i' : Int) => it (ref01_Get.C n) n (Code.go ref01_Get.code [1, 1, 1, 1, 0, 1, 0, 0]) (blockK 0 (seqK (ref01_Get.C n) n (Code.go ref01_Get.code [1, 1, 1, 1, 1]) (bodyK (ref01_Get.C n) f16 ref01_Get.rs))) n ⟨[(0, .dat (.slc (.int .u8)) (b_1')), (1, .dat (.int .i64) (at1_1')), (2, .dat (.int .i64) (size_1')), (8, .dat (.int .i64) (n8')), (9, .dat (.int .i64) (i'))], []⟩) x.1 x.2.1 x.2.2 := by kernel_rfl
theorem ref01_Get.eq (n : Nat) (x : pdens ref01_Get.ps) : Vi.run (ref01_Get.C n) n f16 ref01_Get.ps ref01_Get.rs x = ref01_Get n x.1 x.2.1 x.2.2 :=
  (ref01_Get.run0 n x).trans (congrArg (fun k0 => ref01_Get.s n k0 x.1 x.2.1 x.2.2) (funext fun b_1' => funext fun at1_1' => funext fun size_1' => funext fun n8' => funext fun i' => ref01_Get.l0.eq n b_1' at1_1' size_1' n n8' i'))
theorem ref01_Get.sound (n : Nat) : SoundE prog 16 (ref01_Get.e n) :=
  soundE_of_run (C := ref01_Get.C n) (n := n) (ref01_Get.ok n) func16 (by kernel_rfl) (by kernel_rfl) (fun x r h => (ref01_Get.eq n x).trans h)

def num_Right.rs : List RTy := [.data .bool]
def num_Right.ps : List PTy := [.data (.int .i64), .data (.int .i64)]
noncomputable def num_Right.e (n : Nat) : Ent := ⟨num_Right.ps, num_Right.rs, fun x => num_Right x.1 x.2⟩
noncomputable def num_Right.C (n : Nat) : Ctx := { tab := tab, fts := fts, Γ := lookO [(51, num_sized.e n)], Γc := lookO [], ntmps := f22.ntmps, keep := Vi.look ([], []) [] }
theorem num_Right.ok (n : Nat) : CtxOk prog (num_Right.C n) := ⟨types, ftsOk_, (fns_cons (num_sized.sound n) fns_nil), cls_nil, mixed⟩
theorem num_Right.eq (n : Nat) (x : pdens num_Right.ps) : Vi.run (num_Right.C n) n f22 num_Right.ps num_Right.rs x = num_Right x.1 x.2 := by kernel_rfl
theorem num_Right.sound (n : Nat) : SoundE prog 22 (num_Right.e n) :=
  soundE_of_run (C := num_Right.C n) (n := n) (num_Right.ok n) func22 (by kernel_rfl) (by kernel_rfl) (fun x r h => (num_Right.eq n x).trans h)

def num_Put.rs : List RTy := [.fresh (.int .u8)]
def num_Put.ps : List PTy := [.data (.slc (.int .u8)), .data (.int .i64), .data (.int .i64)]
noncomputable def num_Put.e (n : Nat) : Ent := ⟨num_Put.ps, num_Put.rs, fun x => num_Put n x.1 x.2.1 x.2.2⟩
noncomputable def num_Put.C (n : Nat) : Ctx := { tab := tab, fts := fts, Γ := lookO [(22, num_Right.e n)], Γc := lookO [], ntmps := f18.ntmps, keep := Vi.look ([], []) [(5, ([0, 1, 2, 7, 15], [7]))] }
theorem num_Put.ok (n : Nat) : CtxOk prog (num_Put.C n) := ⟨types, ftsOk_, (fns_cons (num_Right.sound n) fns_nil), cls_nil, mixed⟩
noncomputable def num_Put.code : Code := bodyOf f18
theorem num_Put.l0.step (n m0 : Nat) (b_1 : (List Int)) (n1_1 : Int) (size_1 : Int) (v15 : Int) (x : (List Int)) : it (num_Put.C n) n (Code.go num_Put.code [1, 1, 1, 0, 1, 0, 0]) (blockK 0 (seqK (num_Put.C n) n (Code.go num_Put.code [1, 1, 1, 1]) (bodyK (num_Put.C n) f18 num_Put.rs))) (m0 + 1) ⟨[(0, .dat (.slc (.int .u8)) b_1), (1, .dat (.int .i64) n1_1), (2, .dat (.int .i64) size_1), (7, .ptr 7 0 (.arr 4 (.int .u8)) []), (15, .dat (.int .i64) v15)], [(7, .box 0 false (.dat (.arr 4 (.int .u8)) x))]⟩ = num_Put.s0 n (fun (v15' : Int) (x' : (List Int)) => it (num_Put.C n) n (Code.go num_Put.code [1, 1, 1, 0, 1, 0, 0]) (blockK 0 (seqK (num_Put.C n) n (Code.go num_Put.code [1, 1, 1, 1]) (bodyK (num_Put.C n) f18 num_Put.rs))) m0 ⟨[(0, .dat (.slc (.int .u8)) b_1), (1, .dat (.int .i64) n1_1), (2, .dat (.int .i64) size_1), (7, .ptr 7 0 (.arr 4 (.int .u8)) []), (15, .dat (.int .i64) (v15'))], [(7, .box 0 false (.dat (.arr 4 (.int .u8)) (x')))]⟩) b_1 n1_1 size_1 v15 x := by kernel_rfl
theorem num_Put.l0.eq (n : Nat) (b_1 : (List Int)) (n1_1 : Int) (size_1 : Int) : ∀ (m0 : Nat) (v15 : Int) (x : (List Int)), it (num_Put.C n) n (Code.go num_Put.code [1, 1, 1, 0, 1, 0, 0]) (blockK 0 (seqK (num_Put.C n) n (Code.go num_Put.code [1, 1, 1, 1]) (bodyK (num_Put.C n) f18 num_Put.rs))) m0 ⟨[(0, .dat (.slc (.int .u8)) b_1), (1, .dat (.int .i64) n1_1), (2, .dat (.int .i64) size_1), (7, .ptr 7 0 (.arr 4 (.int .u8)) []), (15, .dat (.int .i64) v15)], [(7, .box 0 false (.dat (.arr 4 (.int .u8)) x))]⟩ = num_Put.l0 n b_1 n1_1 size_1 m0 v15 x
  | 0, _, _ => rfl
  | m0 + 1, v15, x =>
    (num_Put.l0.step n m0 b_1 n1_1 size_1 v15 x).trans (congrArg (fun k0 => num_Put.s0 n k0 b_1 n1_1 size_1 v15 x) (funext fun v15' => funext fun x' => num_Put.l0.eq n b_1 n1_1 size_1 m0 v15' x'))
theorem num_Put.run0 (n : Nat) (x : pdens num_Put.ps) : Vi.run (num_Put.C n) n f18 num_Put.ps num_Put.rs x = num_Put.s n (fun (b_1' : (List Int)) (n1_1' : Int) (size_1' : Int) (v15' : Int) (x' : (List Int)) => it (num_Put.C n) n (Code.go num_Put.code [1, 1, 1, 0, 1, 0, 0]) (blockK 0 (seqK (num_Put.C n) n (Code.go num_Put.code [1, 1, 1, 1]) (bodyK (num_Put.C n) f18 num_Put.rs))) n ⟨[(0, .dat (.slc (.int .u8)) (b_1')), (1, .dat (.int .i64) (n1_1')), (2, .dat (.int .i64) (size_1')), (7, .ptr 7 0 (.arr 4 (.int .u8)) []), (15, .dat (.int .i64) (v15'))], [(7, .box 0 false (.dat (.arr 4 (.int .u8)) (x')))]⟩) x.1 x.2.1 x.2.2 := by kernel_rfl
theorem num_Put.eq (n : Nat) (x : pdens num_Put.ps) : Vi.run (num_Put.C n) n f18 num_Put.ps num_Put.rs x = num_Put n x.1 x.2.1 x.2.2 :=
  (num_Put.run0 n x).trans (congrArg (fun k0 => num_Put.s n k0 x.1 x.2.1 x.2.2) (funext fun b_1' => funext fun n1_1' => funext fun size_1' => funext fun v15' => funext fun x' => num_Put.l0.eq n b_1' n1_1' size_1' n v15' x'))
theorem num_Put.sound (n : Nat) : SoundE prog 18 (num_Put.e n) :=
  soundE_of_run (C := num_Put.C n) (n := n) (num_Put.ok n) func18 (by kernel_rfl) (by kernel_rfl) (fun x r h => (num_Put.eq n x).trans h)

def slices_Equal_byte.rs : List RTy := [.data .bool]
def slices_Equal_byte.ps : List PTy := [.data (.slc (.int .u8)), .data (.slc (.int .u8))]
noncomputable def slices_Equal_byte.e (n : Nat) : Ent := ⟨slices_Equal_byte.ps, slices_Equal_byte.rs, fun x => slices_Equal_byte n x.1 x.2⟩
noncomputable def slices_Equal_byte.C (n : Nat) : Ctx := { tab := tab, fts := fts, Γ := lookO [], Γc := lookO [], ntmps := f20.ntmps, keep := Vi.look ([], []) [(4, ([0, 1, 12, 13], []))] }
theorem slices_Equal_byte.ok (n : Nat) : CtxOk prog (slices_Equal_byte.C n) := ⟨types, ftsOk_, fns_nil, cls_nil, mixed⟩
noncomputable def slices_Equal_byte.code : Code := bodyOf f20
theorem slices_Equal_byte.l0.step (n m0 : Nat) (s1_1 : (List Int)) (s2_1 : (List Int)) (v12 : Int) (v13 : Int) : it (slices_Equal_byte.C n) n (Code.go slices_Equal_byte.code [1, 1, 0, 1, 0, 0]) (blockK 0 (seqK (slices_Equal_byte.C n) n (Code.go slices_Equal_byte.code [1, 1, 1]) (bodyK (slices_Equal_byte.C n) f20 slices_Equal_byte.rs))) (m0 + 1) ⟨[(0, .dat (.slc (.int .u8)) s1_1), (1, .dat (.slc (.int .u8)) s2_1), (12, .dat (.int .i64) v12), (13, .dat (.int .i64) v13)], []⟩ = slices_Equal_byte.s0 n (fun (v13' : Int) => it (slices_Equal_byte.C n) n (Code.go slices_Equal_byte.code [1, 1, 0, 1, 0, 0]) (blockK 0 (seqK (slices_Equal_byte.C n) n (Code.go slices_Equal_byte.code [1, 1, 1]) (bodyK (slices_Equal_byte.C n) f20 slices_Equal_byte.rs))) m0 ⟨[(0, .dat (.slc (.int .u8)) s1_1), (1, .dat (.slc (.int .u8)) s2_1), (12, .dat (.int .i64) v12), (13, .dat (.int .i64) (v13'))], []⟩) s1_1 s2_1 v12 v13 := by kernel_rfl
theorem slices_Equal_byte.l0.eq (n : Nat) (s1_1 : (List Int)) (s2_1 : (List Int)) (v12 : Int) : ∀ (m0 : Nat) (v13 : Int), it (slices_Equal_byte.C n) n (Code.go slices_Equal_byte.code [1, 1, 0, 1, 0, 0]) (blockK 0 (seqK (slices_Equal_byte.C n) n (Code.go slices_Equal_byte.code [1, 1, 1]) (bodyK (slices_Equal_byte.C n) f20 slices_Equal_byte.rs))) m0 ⟨[(0, .dat (.slc (.int .u8)) s1_1), (1, .dat (.slc (.int .u8)) s2_1), (12, .dat (.int .i64) v12), (13, .dat (.int .i64) v13)], []⟩ = slices_Equal_byte.l0 n s1_1 s2_1 v12 m0 v13
  | 0, _ => rfl
  | m0 + 1, v13 =>
    (slices_Equal_byte.l0.step n m0 s1_1 s2_1 v12 v13).trans (congrArg (fun k0 => slices_Equal_byte.s0 n k0 s1_1 s2_1 v12 v13) (funext fun v13' => slices_Equal_byte.l0.eq n s1_1 s2_1 v12 m0 v13'))
theorem slices_Equal_byte.run0 (n : Nat) (x : pdens slices_Equal_byte.ps) : Vi.run (slices_Equal_byte.C n) n f20 slices_Equal_byte.ps slices_Equal_byte.rs x = slices_Equal_byte.s n (fun (s1_1' : (List Int)) (s2_1' : (List Int)) (v12' : Int) (v13' : Int) => it (slices_Equal_byte.C n) n (Code.go slices_Equal_byte.code [1, 1, 0, 1, 0, 0]) (blockK 0 (seqK (slices_Equal_byte.C n) n (Code.go slices_Equal_byte.code [1, 1, 1]) (bodyK (slices_Equal_byte.C n) f20 slices_Equal_byte.rs))) n ⟨[(0, .dat (.slc (.int .u8)) (s1_1')), (1, .dat (.slc (.int .u8)) (s2_1')), (12, .dat (.int .i64) (v12')), (13, .dat (.int .i64) (v13'))], []⟩) x.1 x.2 := by kernel_rfl
theorem slices_Equal_byte.eq (n : Nat) (x : pdens slices_Equal_byte.ps) : Vi.run (slices_Equal_byte.C n) n f20 slices_Equal_byte.ps slices_Equal_byte.rs x = slices_Equal_byte n x.1 x.2 :=
  (slices_Equal_byte.run0 n x).trans (congrArg (fun k0 => slices_Equal_byte.s n k0 x.1 x.2) (funext fun s1_1' => funext fun s2_1' => funext fun v12' => funext fun v13' => slices_Equal_byte.l0.eq n s1_1' s2_1' v12' n v13'))
theorem slices_Equal_byte.sound (n : Nat) : SoundE prog 20 (slices_Equal_byte.e n) :=
  soundE_of_run (C := slices_Equal_byte.C n) (n := n) (slices_Equal_byte.ok n) func20 (by kernel_rfl) (by kernel_rfl) (fun x r h => (slices_Equal_byte.eq n x).trans h)

def law01_awake.rs : List RTy := [.data .bool]
def law01_awake.ps : List PTy := []
noncomputable def law01_awake.e (n : Nat) : Ent := ⟨law01_awake.ps, law01_awake.rs, fun x => law01_awake n⟩
noncomputable def law01_awake.C (n : Nat) : Ctx := { tab := tab, fts := fts, Γ := lookO [(15, num_Get.e n), (18, num_Put.e n), (20, slices_Equal_byte.e n), (22, num_Right.e n)], Γc := lookO [], ntmps := f17.ntmps, keep := Vi.look ([], []) [] }
theorem law01_awake.ok (n : Nat) : CtxOk prog (law01_awake.C n) := ⟨types, ftsOk_, (fns_cons (num_Get.sound n) (fns_cons (num_Put.sound n) (fns_cons (slices_Equal_byte.sound n) (fns_cons (num_Right.sound n) fns_nil)))), cls_nil, mixed⟩
theorem law01_awake.eq (n : Nat) (x : pdens law01_awake.ps) : Vi.run (law01_awake.C n) n f17 law01_awake.ps law01_awake.rs x = law01_awake n := by kernel_rfl
theorem law01_awake.sound (n : Nat) : SoundE prog 17 (law01_awake.e n) :=
  soundE_of_run (C := law01_awake.C n) (n := n) (law01_awake.ok n) func17 (by kernel_rfl) (by kernel_rfl) (fun x r h => (law01_awake.eq n x).trans h)

def law01_NumGets.rs : List RTy := [.data .bool]
def law01_NumGets.ps : List PTy := [.data (.slc (.int .u8)), .data (.int .i64), .data (.int .i64)]
noncomputable def law01_NumGets.e (n : Nat) : Ent := ⟨law01_NumGets.ps, law01_NumGets.rs, fun x => law01_NumGets n x.1 x.2.1 x.2.2⟩
noncomputable def law01_NumGets.C (n : Nat) : Ctx := { tab := tab, fts := fts, Γ := lookO [(15, num_Get.e n), (16, ref01_Get.e n), (17, law01_awake.e n)], Γc := lookO [], ntmps := f3.ntmps, keep := Vi.look ([], []) [] }
theorem law01_NumGets.ok (n : Nat) : CtxOk prog (law01_NumGets.C n) := ⟨types, ftsOk_, (fns_cons (num_Get.sound n) (fns_cons (ref01_Get.sound n) (fns_cons (law01_awake.sound n) fns_nil))), cls_nil, mixed⟩
theorem law01_NumGets.eq (n : Nat) (x : pdens law01_NumGets.ps) : Vi.run (law01_NumGets.C n) n f3 law01_NumGets.ps law01_NumGets.rs x = law01_NumGets n x.1 x.2.1 x.2.2 := by kernel_rfl
theorem law01_NumGets.sound (n : Nat) : SoundE prog 3 (law01_NumGets.e n) :=
  soundE_of_run (C := law01_NumGets.C n) (n := n) (law01_NumGets.ok n) func3 (by kernel_rfl) (by kernel_rfl) (fun x r h => (law01_NumGets.eq n x).trans h)
def law01_NumGets.g (n : Nat) (x : pdens (law01_NumGets.τs.map PTy.data)) : Option Bool := law01_NumGets n x.1 x.2.1 x.2.2
theorem law01_NumGets.soundN (n : Nat) : SoundE prog 3 ⟨law01_NumGets.τs.map PTy.data, [.data .bool], law01_NumGets.g n⟩ := law01_NumGets.sound n

def law01_NumBack.rs : List RTy := [.data .bool]
def law01_NumBack.ps : List PTy := [.data (.slc (.int .u8)), .data (.int .u32), .data (.int .u8)]
noncomputable def law01_NumBack.e (n : Nat) : Ent := ⟨law01_NumBack.ps, law01_NumBack.rs, fun x => law01_NumBack n x.1 x.2.1 x.2.2⟩
noncomputable def law01_NumBack.C (n : Nat) : Ctx := { tab := tab, fts := fts, Γ := lookO [(15, num_Get.e n), (17, law01_awake.e n), (18, num_Put.e n)], Γc := lookO [], ntmps := f4.ntmps, keep := Vi.look ([], []) [] }
theorem law01_NumBack.ok (n : Nat) : CtxOk prog (law01_NumBack.C n) := ⟨types, ftsOk_, (fns_cons (num_Get.sound n) (fns_cons (law01_awake.sound n) (fns_cons (num_Put.sound n) fns_nil))), cls_nil, mixed⟩
theorem law01_NumBack.eq (n : Nat) (x : pdens law01_NumBack.ps) : Vi.run (law01_NumBack.C n) n f4 law01_NumBack.ps law01_NumBack.rs x = law01_NumBack n x.1 x.2.1 x.2.2 := by kernel_rfl
theorem law01_NumBack.sound (n : Nat) : SoundE prog 4 (law01_NumBack.e n) :=
  soundE_of_run (C := law01_NumBack.C n) (n := n) (law01_NumBack.ok n) func4 (by kernel_rfl) (by kernel_rfl) (fun x r h => (law01_NumBack.eq n x).trans h)
def law01_NumBack.g (n : Nat) (x : pdens (law01_NumBack.τs.map PTy.data)) : Option Bool := law01_NumBack n x.1 x.2.1 x.2.2
theorem law01_NumBack.soundN (n : Nat) : SoundE prog 4 ⟨law01_NumBack.τs.map PTy.data, [.data .bool], law01_NumBack.g n⟩ := law01_NumBack.sound n

def slices_Clone_byte.rs : List RTy := [.fresh (.int .u8)]
def slices_Clone_byte.ps : List PTy := [.data (.slc (.int .u8))]
noncomputable def slices_Clone_byte.e (n : Nat) : Ent := ⟨slices_Clone_byte.ps, slices_Clone_byte.rs, fun x => slices_Clone_byte x⟩
noncomputable def slices_Clone_byte.C (n : Nat) : Ctx := { tab := tab, fts := fts, Γ := lookO [], Γc := lookO [], ntmps := f19.ntmps, keep := Vi.look ([], []) [] }
theorem slices_Clone_byte.ok (n : Nat) : CtxOk prog (slices_Clone_byte.C n) := ⟨types, ftsOk_, fns_nil, cls_nil, mixed⟩
theorem slices_Clone_byte.sound (n : Nat) : SoundE prog 19 (slices_Clone_byte.e n) :=
  soundE_of_nil (C := slices_Clone_byte.C n) (n := n) (slices_Clone_byte.ok n) func19 (by kernel_rfl) (by kernel_rfl) (by kernel_rfl)
    (fun r h => (show runS (slices_Clone_byte.C n) n f19 [(0, .nil)] slices_Clone_byte.rs = slices_Clone_byte [] by kernel_rfl).trans h)
    (fun x r h => (show runS (slices_Clone_byte.C n) n f19 [(0, .lst .nn (.int .u8) x)] slices_Clone_byte.rs = slices_Clone_byte x by kernel_rfl).trans h)

def ref01_Right.rs : List RTy := [.data .bool]
def ref01_Right.ps : List PTy := [.data (.int .i64), .data (.int .i64)]
noncomputable def ref01_Right.e (n : Nat) : Ent := ⟨ref01_Right.ps, ref01_Right.rs, fun x => some (ref01_Right x.1 x.2)⟩
noncomputable def ref01_Right.C (n : Nat) : Ctx := { tab := tab, fts := fts, Γ := lookO [], Γc := lookO [], ntmps := f23.ntmps, keep := Vi.look ([], []) [] }
theorem ref01_Right.ok (n : Nat) : CtxOk prog (ref01_Right.C n) := ⟨types, ftsOk_, fns_nil, cls_nil, mixed⟩
theorem ref01_Right.run0 (n : Nat) (x : pdens ref01_Right.ps) : Vi.run (ref01_Right.C n) n f23 ref01_Right.ps ref01_Right.rs x = ref01_Right.o x.1 x.2 := by kernel_rfl
theorem ref01_Right.eq (n : Nat) (x : pdens ref01_Right.ps) : Vi.run (ref01_Right.C n) n f23 ref01_Right.ps ref01_Right.rs x = some (ref01_Right x.1 x.2) := (ref01_Right.run0 n x).trans (ref01_Right.o_eq _ _)
theorem ref01_Right.sound (n : Nat) : SoundE prog 23 (ref01_Right.e n) :=
  soundE_of_run (C := ref01_Right.C n) (n := n) (ref01_Right.ok n) func23 (by kernel_rfl) (by kernel_rfl) (fun x r h => (ref01_Right.eq n x).trans h)

def ref01_Put.rs : List RTy := [.fresh (.int .u8)]
def ref01_Put.ps : List PTy := [.data (.slc (.int .u8)), .data (.int .i64), .data (.int .i64)]
noncomputable def ref01_Put.e (n : Nat) : Ent := ⟨ref01_Put.ps, ref01_Put.rs, fun x => ref01_Put n x.1 x.2.1 x.2.2⟩
noncomputable def ref01_Put.C (n : Nat) : Ctx := { tab := tab, fts := fts, Γ := lookO [(23, ref01_Right.e n)], Γc := lookO [], ntmps := f21.ntmps, keep := Vi.look ([], []) [(5, ([1, 7, 8], []))] }
theorem ref01_Put.ok (n : Nat) : CtxOk prog (ref01_Put.C n) := ⟨types, ftsOk_, (fns_cons (ref01_Right.sound n) fns_nil), cls_nil, mixed⟩
noncomputable def ref01_Put.code : Code := bodyOf f21
theorem ref01_Put.l0.step (n m0 : Nat) (n1_1 : Int) (out : (List Int)) (i : Int) : it (ref01_Put.C n) n (Code.go ref01_Put.code [1, 1, 1, 0, 1, 0, 0]) (blockK 0 (seqK (ref01_Put.C n) n (Code.go ref01_Put.code [1, 1, 1, 1]) (bodyK (ref01_Put.C n) f21 ref01_Put.rs))) (m0 + 1) ⟨[(1, .dat (.int .i64) n1_1), (7, .lst (.tip 100007 0) (.int .u8) out), (8, .dat (.int .i64) i)], [(100007, .tok 0)]⟩ = ref01_Put.s0 n (fun (out' : (List Int)) (i' : Int) => it (ref01_Put.C n) n (Code.go ref01_Put.code [1, 1, 1, 0, 1, 0, 0]) (blockK 0 (seqK (ref01_Put.C n) n (Code.go ref01_Put.code [1, 1, 1, 1]) (bodyK (ref01_Put.C n) f21 ref01_Put.rs))) m0 ⟨[(1, .dat (.int .i64) n1_1), (7, .lst (.tip 100007 0) (.int .u8) (out')), (8, .dat (.int .i64) (i'))], [(100007, .tok 0)]⟩) n1_1 out i := by kernel_rfl
theorem ref01_Put.l0.eq (n : Nat) (n1_1 : Int) : ∀ (m0 : Nat) (out : (List Int)) (i : Int), it (ref01_Put.C n) n (Code.go ref01_Put.code [1, 1, 1, 0, 1, 0, 0]) (blockK 0 (seqK (ref01_Put.C n) n (Code.go ref01_Put.code [1, 1, 1, 1]) (bodyK (ref01_Put.C n) f21 ref01_Put.rs))) m0 ⟨[(1, .dat (.int .i64) n1_1), (7, .lst (.tip 100007 0) (.int .u8) out), (8, .dat (.int .i64) i)], [(100007, .tok 0)]⟩ = ref01_Put.l0 n n1_1 m0 out i
  | 0, _, _ => rfl
  | m0 + 1, out, i =>
    (ref01_Put.l0.step n m0 n1_1 out i).trans (congrArg (fun k0 => ref01_Put.s0 n k0 n1_1 out i) (funext fun out' => funext fun i' => ref01_Put.l0.eq n n1_1 m0 out' i'))
theorem ref01_Put.run0 (n : Nat) (x : pdens ref01_Put.ps) : Vi.run (ref01_Put.C n) n f21 ref01_Put.ps ref01_Put.rs x = ref01_Put.s n (fun (n1_1' : Int) (out' : (List Int)) (i' : Int) => it (ref01_Put.C n) n (Code.go ref01_Put.code [1, 1, 1, 0, 1, 0, 0]) (blockK 0 (seqK (ref01_Put.C n) n (Code.go ref01_Put.code [1, 1, 1, 1]) (bodyK (ref01_Put.C n) f21 ref01_Put.rs))) n ⟨[(1, .dat (.int .i64) (n1_1')), (7, .lst (.tip 100007 0) (.int .u8) (out')), (8, .dat (.int .i64) (i'))], [(100007, .tok 0)]⟩) x.1 x.2.1 x.2.2 := by kernel_rfl
theorem ref01_Put.eq (n : Nat) (x : pdens ref01_Put.ps) : Vi.run (ref01_Put.C n) n f21 ref01_Put.ps ref01_Put.rs x = ref01_Put n x.1 x.2.1 x.2.2 :=
  (ref01_Put.run0 n x).trans (congrArg (fun k0 => ref01_Put.s n k0 x.1 x.2.1 x.2.2) (funext fun n1_1' => funext fun out' => funext fun i' => ref01_Put.l0.eq n n1_1' n out' i'))
theorem ref01_Put.sound (n : Nat) : SoundE prog 21 (ref01_Put.e n) :=
  soundE_of_run (C := ref01_Put.C n) (n := n) (ref01_Put.ok n) func21 (by kernel_rfl) (by kernel_rfl) (fun x r h => (ref01_Put.eq n x).trans h)

def law01_NumPuts.rs : List RTy := [.data .bool]
def law01_NumPuts.ps : List PTy := [.data (.slc (.int .u8)), .data (.int .i64), .data (.int .i64)]
noncomputable def law01_NumPuts.e (n : Nat) : Ent := ⟨law01_NumPuts.ps, law01_NumPuts.rs, fun x => law01_NumPuts n x.1 x.2.1 x.2.2⟩
noncomputable def law01_NumPuts.C (n : Nat) : Ctx := { tab := tab, fts := fts, Γ := lookO [(17, law01_awake.e n), (18, num_Put.e n), (19, slices_Clone_byte.e n), (20, slices_Equal_byte.e n), (21, ref01_Put.e n), (22, num_Right.e n), (23, ref01_Right.e n)], Γc := lookO [], ntmps := f5.ntmps, keep := Vi.look ([], []) [] }
theorem law01_NumPuts.ok (n : Nat) : CtxOk prog (law01_NumPuts.C n) := ⟨types, ftsOk_, (fns_cons (law01_awake.sound n) (fns_cons (num_Put.sound n) (fns_cons (slices_Clone_byte.sound n) (fns_cons (slices_Equal_byte.sound n) (fns_cons (ref01_Put.sound n) (fns_cons (num_Right.sound n) (fns_cons (ref01_Right.sound n) fns_nil))))))), cls_nil, mixed⟩
theorem law01_NumPuts.eq (n : Nat) (x : pdens law01_NumPuts.ps) : Vi.run (law01_NumPuts.C n) n f5 law01_NumPuts.ps law01_NumPuts.rs x = law01_NumPuts n x.1 x.2.1 x.2.2 := by kernel_rfl
theorem law01_NumPuts.sound (n : Nat) : SoundE prog 5 (law01_NumPuts.e n) :=
  soundE_of_run (C := law01_NumPuts.C n) (n := n) (law01_NumPuts.ok n) func5 (by kernel_rfl) (by kernel_rfl) (fun x r h => (law01_NumPuts.eq n x).trans h)
def law01_NumPuts.g (n : Nat) (x : pdens (law01_NumPuts.τs.map PTy.data)) : Option Bool := law01_NumPuts n x.1 x.2.1 x.2.2
theorem law01_NumPuts.soundN (n : Nat) : SoundE prog 5 ⟨law01_NumPuts.τs.map PTy.data, [.data .bool], law01_NumPuts.g n⟩ := law01_NumPuts.sound n

def wide_And.rs : List RTy := [.data TWide]
def wide_And.ps : List PTy := [.data TWide, .data TWide]
noncomputable def wide_And.e (n : Nat) : Ent := ⟨wide_And.ps, wide_And.rs, fun x => some (wide_And x.1 x.2)⟩
noncomputable def wide_And.C (n : Nat) : Ctx := { tab := tab, fts := fts, Γ := lookO [], Γc := lookO [], ntmps := f61.ntmps, keep := Vi.look ([], []) [] }
theorem wide_And.ok (n : Nat) : CtxOk prog (wide_And.C n) := ⟨types, ftsOk_, fns_nil, cls_nil, mixed⟩
theorem wide_And.eq (n : Nat) (x : pdens wide_And.ps) : Vi.run (wide_And.C n) n f61 wide_And.ps wide_And.rs x = some (wide_And x.1 x.2) := by kernel_rfl
theorem wide_And.sound (n : Nat) : SoundE prog 61 (wide_And.e n) :=
  soundE_of_run (C := wide_And.C n) (n := n) (wide_And.ok n) func61 (by kernel_rfl) (by kernel_rfl) (fun x r h => (wide_And.eq n x).trans h)

def wide_Xor.rs : List RTy := [.data TWide]
def wide_Xor.ps : List PTy := [.data TWide, .data TWide]
noncomputable def wide_Xor.e (n : Nat) : Ent := ⟨wide_Xor.ps, wide_Xor.rs, fun x => some (wide_Xor x.1 x.2)⟩
noncomputable def wide_Xor.C (n : Nat) : Ctx := { tab := tab, fts := fts, Γ := lookO [], Γc := lookO [], ntmps := f80.ntmps, keep := Vi.look ([], []) [] }
theorem wide_Xor.ok (n : Nat) : CtxOk prog (wide_Xor.C n) := ⟨types, ftsOk_, fns_nil, cls_nil, mixed⟩
theorem wide_Xor.eq (n : Nat) (x : pdens wide_Xor.ps) : Vi.run (wide_Xor.C n) n f80 wide_Xor.ps wide_Xor.rs x = some (wide_Xor x.1 x.2) := by kernel_rfl
theorem wide_Xor.sound (n : Nat) : SoundE prog 80 (wide_Xor.e n) :=
  soundE_of_run (C := wide_Xor.C n) (n := n) (wide_Xor.ok n) func80 (by kernel_rfl) (by kernel_rfl) (fun x r h => (wide_Xor.eq n x).trans h)

def tern_unlike.rs : List RTy := [.data TWide]
def tern_unlike.ps : List PTy := [.data TWide, .data TWide, .data TWide]
noncomputable def tern_unlike.e (n : Nat) : Ent := ⟨tern_unlike.ps, tern_unlike.rs, fun x => some (tern_unlike x.1 x.2.1 x.2.2)⟩
noncomputable def tern_unlike.C (n : Nat) : Ctx := { tab := tab, fts := fts, Γ := lookO [(61, wide_And.e n), (80, wide_Xor.e n)], Γc := lookO [], ntmps := f79.ntmps, keep := Vi.look ([], []) [] }
theorem tern_unlike.ok (n : Nat) : CtxOk prog (tern_unlike.C n) := ⟨types, ftsOk_, (fns_cons (wide_And.sound n) (fns_cons (wide_Xor.sound n) fns_nil)), cls_nil, mixed⟩
theorem tern_unlike.eq (n : Nat) (x : pdens tern_unlike.ps) : Vi.run (tern_unlike.C n) n f79 tern_unlike.ps tern_unlike.rs x = some (tern_unlike x.1 x.2.1 x.2.2) := by kernel_rfl
theorem tern_unlike.sound (n : Nat) : SoundE prog 79 (tern_unlike.e n) :=
  soundE_of_run (C := tern_unlike.C n) (n := n) (tern_unlike.ok n) func79 (by kernel_rfl) (by kernel_rfl) (fun x r h => (tern_unlike.eq n x).trans h)

def wide_Zero.rs : List RTy := [.data .bool]
def wide_Zero.ps : List PTy := [.data TWide]
noncomputable def wide_Zero.e (n : Nat) : Ent := ⟨wide_Zero.ps, wide_Zero.rs, fun x => some (wide_Zero x)⟩
noncomputable def wide_Zero.C (n : Nat) : Ctx := { tab := tab, fts := fts, Γ := lookO [], Γc := lookO [], ntmps := f78.ntmps, keep := Vi.look ([], []) [] }
theorem wide_Zero.ok (n : Nat) : CtxOk prog (wide_Zero.C n) := ⟨types, ftsOk_, fns_nil, cls_nil, mixed⟩
theorem wide_Zero.eq (n : Nat) (x : pdens wide_Zero.ps) : Vi.run (wide_Zero.C n) n f78 wide_Zero.ps wide_Zero.rs x = some (wide_Zero x) := by kernel_rfl
theorem wide_Zero.sound (n : Nat) : SoundE prog 78 (wide_Zero.e n) :=
  soundE_of_run (C := wide_Zero.C n) (n := n) (wide_Zero.ok n) func78 (by kernel_rfl) (by kernel_rfl) (fun x r h => (wide_Zero.eq n x).trans h)

def tern_Has.rs : List RTy := [.data .bool]
def tern_Has.ps : List PTy := [.data TTern, .data TWide]
noncomputable def tern_Has.e (n : Nat) : Ent := ⟨tern_Has.ps, tern_Has.rs, fun x => some (tern_Has x.1 x.2)⟩
noncomputable def tern_Has.C (n : Nat) : Ctx := { tab := tab, fts := fts, Γ := lookO [(78, wide_Zero.e n), (79, tern_unlike.e n)], Γc := lookO [], ntmps := f74.ntmps, keep := Vi.look ([], []) [] }
theorem tern_Has.ok (n : Nat) : CtxOk prog (tern_Has.C n) := ⟨types, ftsOk_, (fns_cons (wide_Zero.sound n) (fns_cons (tern_unlike.sound n) fns_nil)), cls_nil, mixed⟩
theorem tern_Has.eq (n : Nat) (x : pdens tern_Has.ps) : Vi.run (tern_Has.C n) n f74 tern_Has.ps tern_Has.rs x = some (tern_Has x.1 x.2) := by kernel_rfl
theorem tern_Has.sound (n : Nat) : SoundE prog 74 (tern_Has.e n) :=
  soundE_of_run (C := tern_Has.C n) (n := n) (tern_Has.ok n) func74 (by kernel_rfl) (by kernel_rfl) (fun x r h => (tern_Has.eq n x).trans h)

def tern_Clean.rs : List RTy := [.data TTern]
def tern_Clean.ps : List PTy := [.data TTern]
noncomputable def tern_Clean.e (n : Nat) : Ent := ⟨tern_Clean.ps, tern_Clean.rs, fun x => some (tern_Clean x)⟩
noncomputable def tern_Clean.C (n : Nat) : Ctx := { tab := tab, fts := fts, Γ := lookO [(61, wide_And.e n)], Γc := lookO [], ntmps := f55.ntmps, keep := Vi.look ([], []) [] }
theorem tern_Clean.ok (n : Nat) : CtxOk prog (tern_Clean.C n) := ⟨types, ftsOk_, (fns_cons (wide_And.sound n) fns_nil), cls_nil, mixed⟩
theorem tern_Clean.eq (n : Nat) (x : pdens tern_Clean.ps) : Vi.run (tern_Clean.C n) n f55 tern_Clean.ps tern_Clean.rs x = some (tern_Clean x) := by kernel_rfl
theorem tern_Clean.sound (n : Nat) : SoundE prog 55 (tern_Clean.e n) :=
  soundE_of_run (C := tern_Clean.C n) (n := n) (tern_Clean.ok n) func55 (by kernel_rfl) (by kernel_rfl) (fun x r h => (tern_Clean.eq n x).trans h)

def wide_Or.rs : List RTy := [.data TWide]
def wide_Or.ps : List PTy := [.data TWide, .data TWide]
noncomputable def wide_Or.e (n : Nat) : Ent := ⟨wide_Or.ps, wide_Or.rs, fun x => some (wide_Or x.1 x.2)⟩
noncomputable def wide_Or.C (n : Nat) : Ctx := { tab := tab, fts := fts, Γ := lookO [], Γc := lookO [], ntmps := f60.ntmps, keep := Vi.look ([], []) [] }
theorem wide_Or.ok (n : Nat) : CtxOk prog (wide_Or.C n) := ⟨types, ftsOk_, fns_nil, cls_nil, mixed⟩
theorem wide_Or.eq (n : Nat) (x : pdens wide_Or.ps) : Vi.run (wide_Or.C n) n f60 wide_Or.ps wide_Or.rs x = some (wide_Or x.1 x.2) := by kernel_rfl
theorem wide_Or.sound (n : Nat) : SoundE prog 60 (wide_Or.e n) :=
  soundE_of_run (C := wide_Or.C n) (n := n) (wide_Or.ok n) func60 (by kernel_rfl) (by kernel_rfl) (fun x r h => (wide_Or.eq n x).trans h)

def tern_Meet.rs : List RTy := [.data TTern, .data .bool]
def tern_Meet.ps : List PTy := [.data TTern, .data TTern]
noncomputable def tern_Meet.e (n : Nat) : Ent := ⟨tern_Meet.ps, tern_Meet.rs, fun x => some (tern_Meet x.1 x.2)⟩
noncomputable def tern_Meet.C (n : Nat) : Ctx := { tab := tab, fts := fts, Γ := lookO [(55, tern_Clean.e n), (60, wide_Or.e n), (61, wide_And.e n), (74, tern_Has.e n)], Γc := lookO [], ntmps := f52.ntmps, keep := Vi.look ([], []) [] }
theorem tern_Meet.ok (n : Nat) : CtxOk prog (tern_Meet.C n) := ⟨types, ftsOk_, (fns_cons (tern_Clean.sound n) (fns_cons (wide_Or.sound n) (fns_cons (wide_And.sound n) (fns_cons (tern_Has.sound n) fns_nil)))), cls_nil, mixed⟩
theorem tern_Meet.run0 (n : Nat) (x : pdens tern_Meet.ps) : Vi.run (tern_Meet.C n) n f52 tern_Meet.ps tern_Meet.rs x = tern_Meet.o x.1 x.2 := by kernel_rfl
theorem tern_Meet.eq (n : Nat) (x : pdens tern_Meet.ps) : Vi.run (tern_Meet.C n) n f52 tern_Meet.ps tern_Meet.rs x = some (tern_Meet x.1 x.2) := (tern_Meet.run0 n x).trans (tern_Meet.o_eq _ _)
theorem tern_Meet.sound (n : Nat) : SoundE prog 52 (tern_Meet.e n) :=
  soundE_of_run (C := tern_Meet.C n) (n := n) (tern_Meet.ok n) func52 (by kernel_rfl) (by kernel_rfl) (fun x r h => (tern_Meet.eq n x).trans h)

def wide_Less.rs : List RTy := [.data TWide]
def wide_Less.ps : List PTy := [.data TWide, .data TWide]
noncomputable def wide_Less.e (n : Nat) : Ent := ⟨wide_Less.ps, wide_Less.rs, fun x => some (wide_Less x.1 x.2)⟩
noncomputable def wide_Less.C (n : Nat) : Ctx := { tab := tab, fts := fts, Γ := lookO [], Γc := lookO [], ntmps := f56.ntmps, keep := Vi.look ([], []) [] }
theorem wide_Less.ok (n : Nat) : CtxOk prog (wide_Less.C n) := ⟨types, ftsOk_, fns_nil, cls_nil, mixed⟩
theorem wide_Less.eq (n : Nat) (x : pdens wide_Less.ps) : Vi.run (wide_Less.C n) n f56 wide_Less.ps wide_Less.rs x = some (wide_Less x.1 x.2) := by kernel_rfl
theorem wide_Less.sound (n : Nat) : SoundE prog 56 (wide_Less.e n) :=
  soundE_of_run (C := wide_Less.C n) (n := n) (wide_Less.ok n) func56 (by kernel_rfl) (by kernel_rfl) (fun x r h => (wide_Less.eq n x).trans h)

def rewrite_Before_1.rs : List Ty := [TTern]
def rewrite_Before_1.ps : List Ty := [(.int .i64)]
def rewrite_Before_1.caps : List PTy := [.cptr TRewrite, .cptr TRewrite]
noncomputable def rewrite_Before_1.e (n : Nat) : Cl := ⟨rewrite_Before_1.ps, rewrite_Before_1.caps, rewrite_Before_1.rs, fun x c => rewrite_Before_1 x c.1 c.2⟩
noncomputable def rewrite_Before_1.C (n : Nat) : Ctx := { tab := tab, fts := fts, Γ := lookO [(55, tern_Clean.e n), (56, wide_Less.e n)], Γc := lookO [], ntmps := f54.ntmps, keep := Vi.look ([], []) [] }
theorem rewrite_Before_1.ok (n : Nat) : CtxOk prog (rewrite_Before_1.C n) := ⟨types, ftsOk_, (fns_cons (tern_Clean.sound n) (fns_cons (wide_Less.sound n) fns_nil)), cls_nil, mixed⟩
theorem rewrite_Before_1.eq (n : Nat) (x : dens rewrite_Before_1.ps) (c : pdens rewrite_Before_1.caps) : Vi.runC (rewrite_Before_1.C n) n f54 rewrite_Before_1.ps rewrite_Before_1.caps rewrite_Before_1.rs x c = rewrite_Before_1 x c.1 c.2 := by kernel_rfl
theorem rewrite_Before_1.sound (n : Nat) : SoundC prog 54 (rewrite_Before_1.e n) :=
  soundC_of_run (C := rewrite_Before_1.C n) (n := n) (rewrite_Before_1.ok n) func54 (by kernel_rfl) (by kernel_rfl) (fun x c r h => (rewrite_Before_1.eq n x c).trans h)

def rewrite_each_Cube.rs : List RTy := [.data TRewrite]
def rewrite_each_Cube.ps : List PTy := [.fnp [(.int .i64)] [TTern]]
noncomputable def rewrite_each_Cube.e (n : Nat) : Ent := ⟨rewrite_each_Cube.ps, rewrite_each_Cube.rs, fun x => rewrite_each_Cube n x⟩
noncomputable def rewrite_each_Cube.C (n : Nat) : Ctx := { tab := tab, fts := fts, Γ := lookO [], Γc := lookO [], ntmps := f53.ntmps, keep := Vi.look ([], []) [(3, ([0, 2, 3, 5], [2, 3]))] }
theorem rewrite_each_Cube.ok (n : Nat) : CtxOk prog (rewrite_each_Cube.C n) := ⟨types, ftsOk_, fns_nil, cls_nil, mixed⟩
noncomputable def rewrite_each_Cube.code : Code := bodyOf f53
theorem rewrite_each_Cube.l0.step (n m0 : Nat) (f_1 : (Int → Option Tern)) (v5 : Int) (v2 : Rewrite) (out : Rewrite) : it (rewrite_each_Cube.C n) n (Code.go rewrite_each_Cube.code [1, 1, 0, 1, 0, 0]) (blockK 0 (seqK (rewrite_each_Cube.C n) n (Code.go rewrite_each_Cube.code [1, 1, 1]) (bodyK (rewrite_each_Cube.C n) f53 rewrite_each_Cube.rs))) (m0 + 1) ⟨[(0, .fn [(.int .i64)] [TTern] f_1), (2, .ptr 2 0 TRewrite []), (3, .ptr 3 0 TRewrite []), (5, .dat (.int .i64) v5)], [(2, .box 0 false (.dat TRewrite v2)), (3, .box 0 false (.dat TRewrite out))]⟩ = rewrite_each_Cube.s0 n (fun (v5' : Int) (out' : Rewrite) => it (rewrite_each_Cube.C n) n (Code.go rewrite_each_Cube.code [1, 1, 0, 1, 0, 0]) (blockK 0 (seqK (rewrite_each_Cube.C n) n (Code.go rewrite_each_Cube.code [1, 1, 1]) (bodyK (rewrite_each_Cube.C n) f53 rewrite_each_Cube.rs))) m0 ⟨[(0, .fn [(.int .i64)] [TTern] f_1), (2, .ptr 2 0 TRewrite []), (3, .ptr 3 0 TRewrite []), (5, .dat (.int .i64) (v5'))], [(2, .box 0 false (.dat TRewrite v2)), (3, .box 0 false (.dat TRewrite (out')))]⟩) f_1 v5 v2 out := by kernel_rfl
theorem rewrite_each_Cube.l0.eq (n : Nat) (f_1 : (Int → Option Tern)) (v2 : Rewrite) : ∀ (m0 : Nat) (v5 : Int) (out : Rewrite), it (rewrite_each_Cube.C n) n (Code.go rewrite_each_Cube.code [1, 1, 0, 1, 0, 0]) (blockK 0 (seqK (rewrite_each_Cube.C n) n (Code.go rewrite_each_Cube.code [1, 1, 1]) (bodyK (rewrite_each_Cube.C n) f53 rewrite_each_Cube.rs))) m0 ⟨[(0, .fn [(.int .i64)] [TTern] f_1), (2, .ptr 2 0 TRewrite []), (3, .ptr 3 0 TRewrite []), (5, .dat (.int .i64) v5)], [(2, .box 0 false (.dat TRewrite v2)), (3, .box 0 false (.dat TRewrite out))]⟩ = rewrite_each_Cube.l0 n f_1 v2 m0 v5 out
  | 0, _, _ => rfl
  | m0 + 1, v5, out =>
    (rewrite_each_Cube.l0.step n m0 f_1 v5 v2 out).trans (congrArg (fun k0 => rewrite_each_Cube.s0 n k0 f_1 v5 v2 out) (funext fun v5' => funext fun out' => rewrite_each_Cube.l0.eq n f_1 v2 m0 v5' out'))
theorem rewrite_each_Cube.run0 (n : Nat) (x : pdens rewrite_each_Cube.ps) : Vi.run (rewrite_each_Cube.C n) n f53 rewrite_each_Cube.ps rewrite_each_Cube.rs x = rewrite_each_Cube.s n (fun (f_1' : (Int → Option Tern)) (v5' : Int) (v2' : Rewrite) (out' : Rewrite) => it (rewrite_each_Cube.C n) n (Code.go rewrite_each_Cube.code [1, 1, 0, 1, 0, 0]) (blockK 0 (seqK (rewrite_each_Cube.C n) n (Code.go rewrite_each_Cube.code [1, 1, 1]) (bodyK (rewrite_each_Cube.C n) f53 rewrite_each_Cube.rs))) n ⟨[(0, .fn [(.int .i64)] [TTern] (f_1')), (2, .ptr 2 0 TRewrite []), (3, .ptr 3 0 TRewrite []), (5, .dat (.int .i64) (v5'))], [(2, .box 0 false (.dat TRewrite (v2'))), (3, .box 0 false (.dat TRewrite (out')))]⟩) x := by kernel_rfl
theorem rewrite_each_Cube.eq (n : Nat) (x : pdens rewrite_each_Cube.ps) : Vi.run (rewrite_each_Cube.C n) n f53 rewrite_each_Cube.ps rewrite_each_Cube.rs x = rewrite_each_Cube n x :=
  (rewrite_each_Cube.run0 n x).trans (congrArg (fun k0 => rewrite_each_Cube.s n k0 x) (funext fun f_1' => funext fun v5' => funext fun v2' => funext fun out' => rewrite_each_Cube.l0.eq n f_1' v2' n v5' out'))
theorem rewrite_each_Cube.sound (n : Nat) : SoundE prog 53 (rewrite_each_Cube.e n) :=
  soundE_of_run (C := rewrite_each_Cube.C n) (n := n) (rewrite_each_Cube.ok n) func53 (by kernel_rfl) (by kernel_rfl) (fun x r h => (rewrite_each_Cube.eq n x).trans h)

def rewrite_Before.rs : List RTy := [.data TRewrite, .data .bool]
def rewrite_Before.ps : List PTy := [.data TRewrite, .data TRewrite]
noncomputable def rewrite_Before.e (n : Nat) : Ent := ⟨rewrite_Before.ps, rewrite_Before.rs, fun x => rewrite_Before n x.1 x.2⟩
noncomputable def rewrite_Before.C (n : Nat) : Ctx := { tab := tab, fts := fts, Γ := lookO [(52, tern_Meet.e n), (53, rewrite_each_Cube.e n)], Γc := lookO [(54, rewrite_Before_1.e n)], ntmps := f24.ntmps, keep := Vi.look ([], []) [(2, ([2, 3, 4, 10, 11], [2, 3, 4]))] }
theorem rewrite_Before.ok (n : Nat) : CtxOk prog (rewrite_Before.C n) := ⟨types, ftsOk_, (fns_cons (tern_Meet.sound n) (fns_cons (rewrite_each_Cube.sound n) fns_nil)), (cls_cons (rewrite_Before_1.sound n) cls_nil), mixed⟩
noncomputable def rewrite_Before.code : Code := bodyOf f24
theorem rewrite_Before.l0.step (n m0 : Nat) (v10 : Rewrite) (v11 : Int) (r_1 : Rewrite) (c_1 : Rewrite) (v4 : Rewrite) : it (rewrite_Before.C n) n (Code.go rewrite_Before.code [1, 0, 1, 0, 0]) (blockK 0 (seqK (rewrite_Before.C n) n (Code.go rewrite_Before.code [1, 1]) (bodyK (rewrite_Before.C n) f24 rewrite_Before.rs))) (m0 + 1) ⟨[(2, .ptr 2 0 TRewrite []), (3, .ptr 3 0 TRewrite []), (4, .ptr 4 0 TRewrite []), (10, .dat TRewrite v10), (11, .dat (.int .i64) v11)], [(2, .box 0 false (.dat TRewrite r_1)), (3, .box 0 false (.dat TRewrite c_1)), (4, .box 0 false (.dat TRewrite v4))]⟩ = rewrite_Before.s0 n (fun (v11' : Int) => it (rewrite_Before.C n) n (Code.go rewrite_Before.code [1, 0, 1, 0, 0]) (blockK 0 (seqK (rewrite_Before.C n) n (Code.go rewrite_Before.code [1, 1]) (bodyK (rewrite_Before.C n) f24 rewrite_Before.rs))) m0 ⟨[(2, .ptr 2 0 TRewrite []), (3, .ptr 3 0 TRewrite []), (4, .ptr 4 0 TRewrite []), (10, .dat TRewrite v10), (11, .dat (.int .i64) (v11'))], [(2, .box 0 false (.dat TRewrite r_1)), (3, .box 0 false (.dat TRewrite c_1)), (4, .box 0 false (.dat TRewrite v4))]⟩) v10 v11 r_1 c_1 v4 := by kernel_rfl
theorem rewrite_Before.l0.eq (n : Nat) (v10 : Rewrite) (r_1 : Rewrite) (c_1 : Rewrite) (v4 : Rewrite) : ∀ (m0 : Nat) (v11 : Int), it (rewrite_Before.C n) n (Code.go rewrite_Before.code [1, 0, 1, 0, 0]) (blockK 0 (seqK (rewrite_Before.C n) n (Code.go rewrite_Before.code [1, 1]) (bodyK (rewrite_Before.C n) f24 rewrite_Before.rs))) m0 ⟨[(2, .ptr 2 0 TRewrite []), (3, .ptr 3 0 TRewrite []), (4, .ptr 4 0 TRewrite []), (10, .dat TRewrite v10), (11, .dat (.int .i64) v11)], [(2, .box 0 false (.dat TRewrite r_1)), (3, .box 0 false (.dat TRewrite c_1)), (4, .box 0 false (.dat TRewrite v4))]⟩ = rewrite_Before.l0 n v10 r_1 c_1 v4 m0 v11
  | 0, _ => rfl
  | m0 + 1, v11 =>
    (rewrite_Before.l0.step n m0 v10 v11 r_1 c_1 v4).trans (congrArg (fun k0 => rewrite_Before.s0 n k0 v10 v11 r_1 c_1 v4) (funext fun v11' => rewrite_Before.l0.eq n v10 r_1 c_1 v4 m0 v11'))
theorem rewrite_Before.run0 (n : Nat) (x : pdens rewrite_Before.ps) : Vi.run (rewrite_Before.C n) n f24 rewrite_Before.ps rewrite_Before.rs x = rewrite_Before.s n (fun (v10' : Rewrite) (v11' : Int) (r_1' : Rewrite) (c_1' : Rewrite) (v4' : Rewrite) => it (rewrite_Before.C n) n (Code.go rewrite_Before.code [1, 0, 1, 0, 0]) (blockK 0 (seqK (rewrite_Before.C n) n (Code.go rewrite_Before.code [1, 1]) (bodyK (rewrite_Before.C n) f24 rewrite_Before.rs))) n ⟨[(2, .ptr 2 0 TRewrite []), (3, .ptr 3 0 TRewrite []), (4, .ptr 4 0 TRewrite []), (10, .dat TRewrite (v10')), (11, .dat (.int .i64) (v11'))], [(2, .box 0 false (.dat TRewrite (r_1'))), (3, .box 0 false (.dat TRewrite (c_1'))), (4, .box 0 false (.dat TRewrite (v4')))]⟩) x.1 x.2 := by kernel_rfl
theorem rewrite_Before.eq (n : Nat) (x : pdens rewrite_Before.ps) : Vi.run (rewrite_Before.C n) n f24 rewrite_Before.ps rewrite_Before.rs x = rewrite_Before n x.1 x.2 :=
  (rewrite_Before.run0 n x).trans (congrArg (fun k0 => rewrite_Before.s n k0 x.1 x.2) (funext fun v10' => funext fun v11' => funext fun r_1' => funext fun c_1' => funext fun v4' => rewrite_Before.l0.eq n v10' r_1' c_1' v4' n v11'))
theorem rewrite_Before.sound (n : Nat) : SoundE prog 24 (rewrite_Before.e n) :=
  soundE_of_run (C := rewrite_Before.C n) (n := n) (rewrite_Before.ok n) func24 (by kernel_rfl) (by kernel_rfl) (fun x r h => (rewrite_Before.eq n x).trans h)

def ref02_And.rs : List RTy := [.data TWide]
def ref02_And.ps : List PTy := [.data TWide, .data TWide]
noncomputable def ref02_And.e (n : Nat) : Ent := ⟨ref02_And.ps, ref02_And.rs, fun x => some (ref02_And x.1 x.2)⟩
noncomputable def ref02_And.C (n : Nat) : Ctx := { tab := tab, fts := fts, Γ := lookO [], Γc := lookO [], ntmps := f63.ntmps, keep := Vi.look ([], []) [] }
theorem ref02_And.ok (n : Nat) : CtxOk prog (ref02_And.C n) := ⟨types, ftsOk_, fns_nil, cls_nil, mixed⟩
theorem ref02_And.eq (n : Nat) (x : pdens ref02_And.ps) : Vi.run (ref02_And.C n) n f63 ref02_And.ps ref02_And.rs x = some (ref02_And x.1 x.2) := by kernel_rfl
theorem ref02_And.sound (n : Nat) : SoundE prog 63 (ref02_And.e n) :=
  soundE_of_run (C := ref02_And.C n) (n := n) (ref02_And.ok n) func63 (by kernel_rfl) (by kernel_rfl) (fun x r h => (ref02_And.eq n x).trans h)

def ref02_Xor.rs : List RTy := [.data TWide]
def ref02_Xor.ps : List PTy := [.data TWide, .data TWide]
noncomputable def ref02_Xor.e (n : Nat) : Ent := ⟨ref02_Xor.ps, ref02_Xor.rs, fun x => some (ref02_Xor x.1 x.2)⟩
noncomputable def ref02_Xor.C (n : Nat) : Ctx := { tab := tab, fts := fts, Γ := lookO [], Γc := lookO [], ntmps := f76.ntmps, keep := Vi.look ([], []) [] }
theorem ref02_Xor.ok (n : Nat) : CtxOk prog (ref02_Xor.C n) := ⟨types, ftsOk_, fns_nil, cls_nil, mixed⟩
theorem ref02_Xor.eq (n : Nat) (x : pdens ref02_Xor.ps) : Vi.run (ref02_Xor.C n) n f76 ref02_Xor.ps ref02_Xor.rs x = some (ref02_Xor x.1 x.2) := by kernel_rfl
theorem ref02_Xor.sound (n : Nat) : SoundE prog 76 (ref02_Xor.e n) :=
  soundE_of_run (C := ref02_Xor.C n) (n := n) (ref02_Xor.ok n) func76 (by kernel_rfl) (by kernel_rfl) (fun x r h => (ref02_Xor.eq n x).trans h)

def ref02_Zero.rs : List RTy := [.data .bool]
def ref02_Zero.ps : List PTy := [.data TWide]
noncomputable def ref02_Zero.e (n : Nat) : Ent := ⟨ref02_Zero.ps, ref02_Zero.rs, fun x => some (ref02_Zero x)⟩
noncomputable def ref02_Zero.C (n : Nat) : Ctx := { tab := tab, fts := fts, Γ := lookO [], Γc := lookO [], ntmps := f75.ntmps, keep := Vi.look ([], []) [] }
theorem ref02_Zero.ok (n : Nat) : CtxOk prog (ref02_Zero.C n) := ⟨types, ftsOk_, fns_nil, cls_nil, mixed⟩
theorem ref02_Zero.run0 (n : Nat) (x : pdens ref02_Zero.ps) : Vi.run (ref02_Zero.C n) n f75 ref02_Zero.ps ref02_Zero.rs x = ref02_Zero.o x := by kernel_rfl
theorem ref02_Zero.eq (n : Nat) (x : pdens ref02_Zero.ps) : Vi.run (ref02_Zero.C n) n f75 ref02_Zero.ps ref02_Zero.rs x = some (ref02_Zero x) := (ref02_Zero.run0 n x).trans (ref02_Zero.o_eq _)
theorem ref02_Zero.sound (n : Nat) : SoundE prog 75 (ref02_Zero.e n) :=
  soundE_of_run (C := ref02_Zero.C n) (n := n) (ref02_Zero.ok n) func75 (by kernel_rfl) (by kernel_rfl) (fun x r h => (ref02_Zero.eq n x).trans h)

def ref05_Clean.rs : List RTy := [.data TTern]
def ref05_Clean.ps : List PTy := [.data TTern]
noncomputable def ref05_Clean.e (n : Nat) : Ent := ⟨ref05_Clean.ps, ref05_Clean.rs, fun x => some (ref05_Clean x)⟩
noncomputable def ref05_Clean.C (n : Nat) : Ctx := { tab := tab, fts := fts, Γ := lookO [(63, ref02_And.e n)], Γc := lookO [], ntmps := f58.ntmps, keep := Vi.look ([], []) [] }
theorem ref05_Clean.ok (n : Nat) : CtxOk prog (ref05_Clean.C n) := ⟨types, ftsOk_, (fns_cons (ref02_And.sound n) fns_nil), cls_nil, mixed⟩
theorem ref05_Clean.eq (n : Nat) (x : pdens ref05_Clean.ps) : Vi.run (ref05_Clean.C n) n f58 ref05_Clean.ps ref05_Clean.rs x = some (ref05_Clean x) := by kernel_rfl
theorem ref05_Clean.sound (n : Nat) : SoundE prog 58 (ref05_Clean.e n) :=
  soundE_of_run (C := ref05_Clean.C n) (n := n) (ref05_Clean.ok n) func58 (by kernel_rfl) (by kernel_rfl) (fun x r h => (ref05_Clean.eq n x).trans h)

def ref02_Or.rs : List RTy := [.data TWide]
def ref02_Or.ps : List PTy := [.data TWide, .data TWide]
noncomputable def ref02_Or.e (n : Nat) : Ent := ⟨ref02_Or.ps, ref02_Or.rs, fun x => some (ref02_Or x.1 x.2)⟩
noncomputable def ref02_Or.C (n : Nat) : Ctx := { tab := tab, fts := fts, Γ := lookO [], Γc := lookO [], ntmps := f62.ntmps, keep := Vi.look ([], []) [] }
theorem ref02_Or.ok (n : Nat) : CtxOk prog (ref02_Or.C n) := ⟨types, ftsOk_, fns_nil, cls_nil, mixed⟩
theorem ref02_Or.eq (n : Nat) (x : pdens ref02_Or.ps) : Vi.run (ref02_Or.C n) n f62 ref02_Or.ps ref02_Or.rs x = some (ref02_Or x.1 x.2) := by kernel_rfl
theorem ref02_Or.sound (n : Nat) : SoundE prog 62 (ref02_Or.e n) :=
  soundE_of_run (C := ref02_Or.C n) (n := n) (ref02_Or.ok n) func62 (by kernel_rfl) (by kernel_rfl) (fun x r h => (ref02_Or.eq n x).trans h)

def ref05_Meet.rs : List RTy := [.data TTern, .data .bool]
def ref05_Meet.ps : List PTy := [.data TTern, .data TTern]
noncomputable def ref05_Meet.e (n : Nat) : Ent := ⟨ref05_Meet.ps, ref05_Meet.rs, fun x => some (ref05_Meet x.1 x.2)⟩
noncomputable def ref05_Meet.C (n : Nat) : Ctx := { tab := tab, fts := fts, Γ := lookO [(58, ref05_Clean.e n), (62, ref02_Or.e n), (63, ref02_And.e n), (75, ref02_Zero.e n), (76, ref02_Xor.e n)], Γc := lookO [], ntmps := f57.ntmps, keep := Vi.look ([], []) [] }
theorem ref05_Meet.ok (n : Nat) : CtxOk prog (ref05_Meet.C n) := ⟨types, ftsOk_, (fns_cons (ref05_Clean.sound n) (fns_cons (ref02_Or.sound n) (fns_cons (ref02_And.sound n) (fns_cons (ref02_Zero.sound n) (fns_cons (ref02_Xor.sound n) fns_nil))))), cls_nil, mixed⟩
theorem ref05_Meet.run0 (n : Nat) (x : pdens ref05_Meet.ps) : Vi.run (ref05_Meet.C n) n f57 ref05_Meet.ps ref05_Meet.rs x = ref05_Meet.o x.1 x.2 := by kernel_rfl
theorem ref05_Meet.eq (n : Nat) (x : pdens ref05_Meet.ps) : Vi.run (ref05_Meet.C n) n f57 ref05_Meet.ps ref05_Meet.rs x = some (ref05_Meet x.1 x.2) := (ref05_Meet.run0 n x).trans (ref05_Meet.o_eq _ _)
theorem ref05_Meet.sound (n : Nat) : SoundE prog 57 (ref05_Meet.e n) :=
  soundE_of_run (C := ref05_Meet.C n) (n := n) (ref05_Meet.ok n) func57 (by kernel_rfl) (by kernel_rfl) (fun x r h => (ref05_Meet.eq n x).trans h)

def ref02_Less.rs : List RTy := [.data TWide]
def ref02_Less.ps : List PTy := [.data TWide, .data TWide]
noncomputable def ref02_Less.e (n : Nat) : Ent := ⟨ref02_Less.ps, ref02_Less.rs, fun x => some (ref02_Less x.1 x.2)⟩
noncomputable def ref02_Less.C (n : Nat) : Ctx := { tab := tab, fts := fts, Γ := lookO [], Γc := lookO [], ntmps := f59.ntmps, keep := Vi.look ([], []) [] }
theorem ref02_Less.ok (n : Nat) : CtxOk prog (ref02_Less.C n) := ⟨types, ftsOk_, fns_nil, cls_nil, mixed⟩
theorem ref02_Less.eq (n : Nat) (x : pdens ref02_Less.ps) : Vi.run (ref02_Less.C n) n f59 ref02_Less.ps ref02_Less.rs x = some (ref02_Less x.1 x.2) := by kernel_rfl
theorem ref02_Less.sound (n : Nat) : SoundE prog 59 (ref02_Less.e n) :=
  soundE_of_run (C := ref02_Less.C n) (n := n) (ref02_Less.ok n) func59 (by kernel_rfl) (by kernel_rfl) (fun x r h => (ref02_Less.eq n x).trans h)

def ref09_Before.rs : List RTy := [.data TRewrite, .data .bool]
def ref09_Before.ps : List PTy := [.data TRewrite, .data TRewrite]
noncomputable def ref09_Before.e (n : Nat) : Ent := ⟨ref09_Before.ps, ref09_Before.rs, fun x => ref09_Before n x.1 x.2⟩
noncomputable def ref09_Before.C (n : Nat) : Ctx := { tab := tab, fts := fts, Γ := lookO [(57, ref05_Meet.e n), (58, ref05_Clean.e n), (59, ref02_Less.e n)], Γc := lookO [], ntmps := f25.ntmps, keep := Vi.look ([], []) [(3, ([2, 3, 4, 6, 7], [2, 3, 4, 6]))] }
theorem ref09_Before.ok (n : Nat) : CtxOk prog (ref09_Before.C n) := ⟨types, ftsOk_, (fns_cons (ref05_Meet.sound n) (fns_cons (ref05_Clean.sound n) (fns_cons (ref02_Less.sound n) fns_nil))), cls_nil, mixed⟩
noncomputable def ref09_Before.code : Code := bodyOf f25
theorem ref09_Before.l0.step (n m0 : Nat) (f : Int) (r_1 : Rewrite) (c_1 : Rewrite) (v4 : Rewrite) (out : Rewrite) : it (ref09_Before.C n) n (Code.go ref09_Before.code [1, 1, 0, 1, 0, 0]) (blockK 0 (seqK (ref09_Before.C n) n (Code.go ref09_Before.code [1, 1, 1]) (bodyK (ref09_Before.C n) f25 ref09_Before.rs))) (m0 + 1) ⟨[(2, .ptr 2 0 TRewrite []), (3, .ptr 3 0 TRewrite []), (4, .ptr 4 0 TRewrite []), (6, .ptr 6 0 TRewrite []), (7, .dat (.int .i64) f)], [(2, .box 0 false (.dat TRewrite r_1)), (3, .box 0 false (.dat TRewrite c_1)), (4, .box 0 false (.dat TRewrite v4)), (6, .box 0 false (.dat TRewrite out))]⟩ = ref09_Before.s0 n (fun (f' : Int) (out' : Rewrite) => it (ref09_Before.C n) n (Code.go ref09_Before.code [1, 1, 0, 1, 0, 0]) (blockK 0 (seqK (ref09_Before.C n) n (Code.go ref09_Before.code [1, 1, 1]) (bodyK (ref09_Before.C n) f25 ref09_Before.rs))) m0 ⟨[(2, .ptr 2 0 TRewrite []), (3, .ptr 3 0 TRewrite []), (4, .ptr 4 0 TRewrite []), (6, .ptr 6 0 TRewrite []), (7, .dat (.int .i64) (f'))], [(2, .box 0 false (.dat TRewrite r_1)), (3, .box 0 false (.dat TRewrite c_1)), (4, .box 0 false (.dat TRewrite v4)), (6, .box 0 false (.dat TRewrite (out')))]⟩) f r_1 c_1 v4 out := by kernel_rfl
theorem ref09_Before.l0.eq (n : Nat) (r_1 : Rewrite) (c_1 : Rewrite) (v4 : Rewrite) : ∀ (m0 : Nat) (f : Int) (out : Rewrite), it (ref09_Before.C n) n (Code.go ref09_Before.code [1, 1, 0, 1, 0, 0]) (blockK 0 (seqK (ref09_Before.C n) n (Code.go ref09_Before.code [1, 1, 1]) (bodyK (ref09_Before.C n) f25 ref09_Before.rs))) m0 ⟨[(2, .ptr 2 0 TRewrite []), (3, .ptr 3 0 TRewrite []), (4, .ptr 4 0 TRewrite []), (6, .ptr 6 0 TRewrite []), (7, .dat (.int .i64) f)], [(2, .box 0 false (.dat TRewrite r_1)), (3, .box 0 false (.dat TRewrite c_1)), (4, .box 0 false (.dat TRewrite v4)), (6, .box 0 false (.dat TRewrite out))]⟩ = ref09_Before.l0 n r_1 c_1 v4 m0 f out
  | 0, _, _ => rfl
  | m0 + 1, f, out =>
    (ref09_Before.l0.step n m0 f r_1 c_1 v4 out).trans (congrArg (fun k0 => ref09_Before.s0 n k0 f r_1 c_1 v4 out) (funext fun f' => funext fun out' => ref09_Before.l0.eq n r_1 c_1 v4 m0 f' out'))
theorem ref09_Before.run0 (n : Nat) (x : pdens ref09_Before.ps) : Vi.run (ref09_Before.C n) n f25 ref09_Before.ps ref09_Before.rs x = ref09_Before.s n (fun (f' : Int) (r_1' : Rewrite) (c_1' : Rewrite) (v4' : Rewrite) (out' : Rewrite) => it (ref09_Before.C n) n (Code.go ref09_Before.code [1, 1, 0, 1, 0, 0]) (blockK 0 (seqK (ref09_Before.C n) n (Code.go ref09_Before.code [1, 1, 1]) (bodyK (ref09_Before.C n) f25 ref09_Before.rs))) n ⟨[(2, .ptr 2 0 TRewrite []), (3, .ptr 3 0 TRewrite []), (4, .ptr 4 0 TRewrite []), (6, .ptr 6 0 TRewrite []), (7, .dat (.int .i64) (f'))], [(2, .box 0 false (.dat TRewrite (r_1'))), (3, .box 0 false (.dat TRewrite (c_1'))), (4, .box 0 false (.dat TRewrite (v4'))), (6, .box 0 false (.dat TRewrite (out')))]⟩) x.1 x.2 := by kernel_rfl
theorem ref09_Before.eq (n : Nat) (x : pdens ref09_Before.ps) : Vi.run (ref09_Before.C n) n f25 ref09_Before.ps ref09_Before.rs x = ref09_Before n x.1 x.2 :=
  (ref09_Before.run0 n x).trans (congrArg (fun k0 => ref09_Before.s n k0 x.1 x.2) (funext fun f' => funext fun r_1' => funext fun c_1' => funext fun v4' => funext fun out' => ref09_Before.l0.eq n r_1' c_1' v4' n f' out'))
theorem ref09_Before.sound (n : Nat) : SoundE prog 25 (ref09_Before.e n) :=
  soundE_of_run (C := ref09_Before.C n) (n := n) (ref09_Before.ok n) func25 (by kernel_rfl) (by kernel_rfl) (fun x r h => (ref09_Before.eq n x).trans h)

def rewrite_Apply.rs : List RTy := [.data THeader]
def rewrite_Apply.ps : List PTy := [.data TRewrite, .data THeader]
noncomputable def rewrite_Apply.e (n : Nat) : Ent := ⟨rewrite_Apply.ps, rewrite_Apply.rs, fun x => rewrite_Apply n x.1 x.2⟩
noncomputable def rewrite_Apply.C (n : Nat) : Ctx := { tab := tab, fts := fts, Γ := lookO [(56, wide_Less.e n), (60, wide_Or.e n), (61, wide_And.e n)], Γc := lookO [], ntmps := f26.ntmps, keep := Vi.look ([], []) [(2, ([3, 4, 7, 8], [3, 4]))] }
theorem rewrite_Apply.ok (n : Nat) : CtxOk prog (rewrite_Apply.C n) := ⟨types, ftsOk_, (fns_cons (wide_Less.sound n) (fns_cons (wide_Or.sound n) (fns_cons (wide_And.sound n) fns_nil))), cls_nil, mixed⟩
noncomputable def rewrite_Apply.code : Code := bodyOf f26
theorem rewrite_Apply.l0.step (n m0 : Nat) (v7 : Rewrite) (v8 : Int) (h_1 : Header) (v4 : Header) : it (rewrite_Apply.C n) n (Code.go rewrite_Apply.code [1, 0, 1, 0, 0]) (blockK 0 (seqK (rewrite_Apply.C n) n (Code.go rewrite_Apply.code [1, 1]) (bodyK (rewrite_Apply.C n) f26 rewrite_Apply.rs))) (m0 + 1) ⟨[(3, .ptr 3 0 THeader []), (4, .ptr 4 0 THeader []), (7, .dat TRewrite v7), (8, .dat (.int .i64) v8)], [(3, .box 0 false (.dat THeader h_1)), (4, .box 0 false (.dat THeader v4))]⟩ = rewrite_Apply.s0 n (fun (v8' : Int) (h_1' : Header) => it (rewrite_Apply.C n) n (Code.go rewrite_Apply.code [1, 0, 1, 0, 0]) (blockK 0 (seqK (rewrite_Apply.C n) n (Code.go rewrite_Apply.code [1, 1]) (bodyK (rewrite_Apply.C n) f26 rewrite_Apply.rs))) m0 ⟨[(3, .ptr 3 0 THeader []), (4, .ptr 4 0 THeader []), (7, .dat TRewrite v7), (8, .dat (.int .i64) (v8'))], [(3, .box 0 false (.dat THeader (h_1'))), (4, .box 0 false (.dat THeader v4))]⟩) v7 v8 h_1 v4 := by kernel_rfl
theorem rewrite_Apply.l0.eq (n : Nat) (v7 : Rewrite) (v4 : Header) : ∀ (m0 : Nat) (v8 : Int) (h_1 : Header), it (rewrite_Apply.C n) n (Code.go rewrite_Apply.code [1, 0, 1, 0, 0]) (blockK 0 (seqK (rewrite_Apply.C n) n (Code.go rewrite_Apply.code [1, 1]) (bodyK (rewrite_Apply.C n) f26 rewrite_Apply.rs))) m0 ⟨[(3, .ptr 3 0 THeader []), (4, .ptr 4 0 THeader []), (7, .dat TRewrite v7), (8, .dat (.int .i64) v8)], [(3, .box 0 false (.dat THeader h_1)), (4, .box 0 false (.dat THeader v4))]⟩ = rewrite_Apply.l0 n v7 v4 m0 v8 h_1
  | 0, _, _ => rfl
  | m0 + 1, v8, h_1 =>
    (rewrite_Apply.l0.step n m0 v7 v8 h_1 v4).trans (congrArg (fun k0 => rewrite_Apply.s0 n k0 v7 v8 h_1 v4) (funext fun v8' => funext fun h_1' => rewrite_Apply.l0.eq n v7 v4 m0 v8' h_1'))
theorem rewrite_Apply.run0 (n : Nat) (x : pdens rewrite_Apply.ps) : Vi.run (rewrite_Apply.C n) n f26 rewrite_Apply.ps rewrite_Apply.rs x = rewrite_Apply.s n (fun (v7' : Rewrite) (v8' : Int) (h_1' : Header) (v4' : Header) => it (rewrite_Apply.C n) n (Code.go rewrite_Apply.code [1, 0, 1, 0, 0]) (blockK 0 (seqK (rewrite_Apply.C n) n (Code.go rewrite_Apply.code [1, 1]) (bodyK (rewrite_Apply.C n) f26 rewrite_Apply.rs))) n ⟨[(3, .ptr 3 0 THeader []), (4, .ptr 4 0 THeader []), (7, .dat TRewrite (v7')), (8, .dat (.int .i64) (v8'))], [(3, .box 0 false (.dat THeader (h_1'))), (4, .box 0 false (.dat THeader (v4')))]⟩) x.1 x.2 := by kernel_rfl
theorem rewrite_Apply.eq (n : Nat) (x : pdens rewrite_Apply.ps) : Vi.run (rewrite_Apply.C n) n f26 rewrite_Apply.ps rewrite_Apply.rs x = rewrite_Apply n x.1 x.2 :=
  (rewrite_Apply.run0 n x).trans (congrArg (fun k0 => rewrite_Apply.s n k0 x.1 x.2) (funext fun v7' => funext fun v8' => funext fun h_1' => funext fun v4' => rewrite_Apply.l0.eq n v7' v4' n v8' h_1'))
theorem rewrite_Apply.sound (n : Nat) : SoundE prog 26 (rewrite_Apply.e n) :=
  soundE_of_run (C := rewrite_Apply.C n) (n := n) (rewrite_Apply.ok n) func26 (by kernel_rfl) (by kernel_rfl) (fun x r h => (rewrite_Apply.eq n x).trans h)

def ref09_Apply.rs : List RTy := [.data THeader]
def ref09_Apply.ps : List PTy := [.data TRewrite, .data THeader]
noncomputable def ref09_Apply.e (n : Nat) : Ent := ⟨ref09_Apply.ps, ref09_Apply.rs, fun x => ref09_Apply n x.1 x.2⟩
noncomputable def ref09_Apply.C (n : Nat) : Ctx := { tab := tab, fts := fts, Γ := lookO [(59, ref02_Less.e n), (62, ref02_Or.e n), (63, ref02_And.e n)], Γc := lookO [], ntmps := f27.ntmps, keep := Vi.look ([], []) [(2, ([2, 3, 4, 5], [2, 3, 4]))] }
theorem ref09_Apply.ok (n : Nat) : CtxOk prog (ref09_Apply.C n) := ⟨types, ftsOk_, (fns_cons (ref02_Less.sound n) (fns_cons (ref02_Or.sound n) (fns_cons (ref02_And.sound n) fns_nil))), cls_nil, mixed⟩
noncomputable def ref09_Apply.code : Code := bodyOf f27
theorem ref09_Apply.l0.step (n m0 : Nat) (f : Int) (r_1 : Rewrite) (h_1 : Header) (v4 : Header) : it (ref09_Apply.C n) n (Code.go ref09_Apply.code [1, 0, 1, 0, 0]) (blockK 0 (seqK (ref09_Apply.C n) n (Code.go ref09_Apply.code [1, 1]) (bodyK (ref09_Apply.C n) f27 ref09_Apply.rs))) (m0 + 1) ⟨[(2, .ptr 2 0 TRewrite []), (3, .ptr 3 0 THeader []), (4, .ptr 4 0 THeader []), (5, .dat (.int .i64) f)], [(2, .box 0 false (.dat TRewrite r_1)), (3, .box 0 false (.dat THeader h_1)), (4, .box 0 false (.dat THeader v4))]⟩ = ref09_Apply.s0 n (fun (f' : Int) (h_1' : Header) => it (ref09_Apply.C n) n (Code.go ref09_Apply.code [1, 0, 1, 0, 0]) (blockK 0 (seqK (ref09_Apply.C n) n (Code.go ref09_Apply.code [1, 1]) (bodyK (ref09_Apply.C n) f27 ref09_Apply.rs))) m0 ⟨[(2, .ptr 2 0 TRewrite []), (3, .ptr 3 0 THeader []), (4, .ptr 4 0 THeader []), (5, .dat (.int .i64) (f'))], [(2, .box 0 false (.dat TRewrite r_1)), (3, .box 0 false (.dat THeader (h_1'))), (4, .box 0 false (.dat THeader v4))]⟩) f r_1 h_1 v4 := by kernel_rfl
theorem ref09_Apply.l0.eq (n : Nat) (r_1 : Rewrite) (v4 : Header) : ∀ (m0 : Nat) (f : Int) (h_1 : Header), it (ref09_Apply.C n) n (Code.go ref09_Apply.code [1, 0, 1, 0, 0]) (blockK 0 (seqK (ref09_Apply.C n) n (Code.go ref09_Apply.code [1, 1]) (bodyK (ref09_Apply.C n) f27 ref09_Apply.rs))) m0 ⟨[(2, .ptr 2 0 TRewrite []), (3, .ptr 3 0 THeader []), (4, .ptr 4 0 THeader []), (5, .dat (.int .i64) f)], [(2, .box 0 false (.dat TRewrite r_1)), (3, .box 0 false (.dat THeader h_1)), (4, .box 0 false (.dat THeader v4))]⟩ = ref09_Apply.l0 n r_1 v4 m0 f h_1
  | 0, _, _ => rfl
  | m0 + 1, f, h_1 =>
    (ref09_Apply.l0.step n m0 f r_1 h_1 v4).trans (congrArg (fun k0 => ref09_Apply.s0 n k0 f r_1 h_1 v4) (funext fun f' => funext fun h_1' => ref09_Apply.l0.eq n r_1 v4 m0 f' h_1'))
theorem ref09_Apply.run0 (n : Nat) (x : pdens ref09_Apply.ps) : Vi.run (ref09_Apply.C n) n f27 ref09_Apply.ps ref09_Apply.rs x = ref09_Apply.s n (fun (f' : Int) (r_1' : Rewrite) (h_1' : Header) (v4' : Header) => it (ref09_Apply.C n) n (Code.go ref09_Apply.code [1, 0, 1, 0, 0]) (blockK 0 (seqK (ref09_Apply.C n) n (Code.go ref09_Apply.code [1, 1]) (bodyK (ref09_Apply.C n) f27 ref09_Apply.rs))) n ⟨[(2, .ptr 2 0 TRewrite []), (3, .ptr 3 0 THeader []), (4, .ptr 4 0 THeader []), (5, .dat (.int .i64) (f'))], [(2, .box 0 false (.dat TRewrite (r_1'))), (3, .box 0 false (.dat THeader (h_1'))), (4, .box 0 false (.dat THeader (v4')))]⟩) x.1 x.2 := by kernel_rfl
theorem ref09_Apply.eq (n : Nat) (x : pdens ref09_Apply.ps) : Vi.run (ref09_Apply.C n) n f27 ref09_Apply.ps ref09_Apply.rs x = ref09_Apply n x.1 x.2 :=
  (ref09_Apply.run0 n x).trans (congrArg (fun k0 => ref09_Apply.s n k0 x.1 x.2) (funext fun f' => funext fun r_1' => funext fun h_1' => funext fun v4' => ref09_Apply.l0.eq n r_1' v4' n f' h_1'))
theorem ref09_Apply.sound (n : Nat) : SoundE prog 27 (ref09_Apply.e n) :=
  soundE_of_run (C := ref09_Apply.C n) (n := n) (ref09_Apply.ok n) func27 (by kernel_rfl) (by kernel_rfl) (fun x r h => (ref09_Apply.eq n x).trans h)

def rewrite_over.rs : List RTy := [.data TTern]
def rewrite_over.ps : List PTy := [.data TTern, .data TTern]
noncomputable def rewrite_over.e (n : Nat) : Ent := ⟨rewrite_over.ps, rewrite_over.rs, fun x => some (rewrite_over x.1 x.2)⟩
noncomputable def rewrite_over.C (n : Nat) : Ctx := { tab := tab, fts := fts, Γ := lookO [(55, tern_Clean.e n), (56, wide_Less.e n), (60, wide_Or.e n)], Γc := lookO [], ntmps := f66.ntmps, keep := Vi.look ([], []) [] }
theorem rewrite_over.ok (n : Nat) : CtxOk prog (rewrite_over.C n) := ⟨types, ftsOk_, (fns_cons (tern_Clean.sound n) (fns_cons (wide_Less.sound n) (fns_cons (wide_Or.sound n) fns_nil))), cls_nil, mixed⟩
theorem rewrite_over.eq (n : Nat) (x : pdens rewrite_over.ps) : Vi.run (rewrite_over.C n) n f66 rewrite_over.ps rewrite_over.rs x = some (rewrite_over x.1 x.2) := by kernel_rfl
theorem rewrite_over.sound (n : Nat) : SoundE prog 66 (rewrite_over.e n) :=
  soundE_of_run (C := rewrite_over.C n) (n := n) (rewrite_over.ok n) func66 (by kernel_rfl) (by kernel_rfl) (fun x r h => (rewrite_over.eq n x).trans h)

def rewrite_Then_1.rs : List Ty := [TTern]
def rewrite_Then_1.ps : List Ty := [(.int .i64)]
def rewrite_Then_1.caps : List PTy := [.cptr TRewrite, .cptr TRewrite]
noncomputable def rewrite_Then_1.e (n : Nat) : Cl := ⟨rewrite_Then_1.ps, rewrite_Then_1.caps, rewrite_Then_1.rs, fun x c => rewrite_Then_1 x c.1 c.2⟩
noncomputable def rewrite_Then_1.C (n : Nat) : Ctx := { tab := tab, fts := fts, Γ := lookO [(66, rewrite_over.e n)], Γc := lookO [], ntmps := f65.ntmps, keep := Vi.look ([], []) [] }
theorem rewrite_Then_1.ok (n : Nat) : CtxOk prog (rewrite_Then_1.C n) := ⟨types, ftsOk_, (fns_cons (rewrite_over.sound n) fns_nil), cls_nil, mixed⟩
theorem rewrite_Then_1.eq (n : Nat) (x : dens rewrite_Then_1.ps) (c : pdens rewrite_Then_1.caps) : Vi.runC (rewrite_Then_1.C n) n f65 rewrite_Then_1.ps rewrite_Then_1.caps rewrite_Then_1.rs x c = rewrite_Then_1 x c.1 c.2 := by kernel_rfl
theorem rewrite_Then_1.sound (n : Nat) : SoundC prog 65 (rewrite_Then_1.e n) :=
  soundC_of_run (C := rewrite_Then_1.C n) (n := n) (rewrite_Then_1.ok n) func65 (by kernel_rfl) (by kernel_rfl) (fun x c r h => (rewrite_Then_1.eq n x c).trans h)

def rewrite_each_Rewrite.rs : List RTy := [.data TRewrite]
def rewrite_each_Rewrite.ps : List PTy := [.fnp [(.int .i64)] [TTern]]
noncomputable def rewrite_each_Rewrite.e (n : Nat) : Ent := ⟨rewrite_each_Rewrite.ps, rewrite_each_Rewrite.rs, fun x => rewrite_each_Rewrite n x⟩
noncomputable def rewrite_each_Rewrite.C (n : Nat) : Ctx := { tab := tab, fts := fts, Γ := lookO [], Γc := lookO [], ntmps := f64.ntmps, keep := Vi.look ([], []) [(3, ([0, 2, 3, 5], [2, 3]))] }
theorem rewrite_each_Rewrite.ok (n : Nat) : CtxOk prog (rewrite_each_Rewrite.C n) := ⟨types, ftsOk_, fns_nil, cls_nil, mixed⟩
noncomputable def rewrite_each_Rewrite.code : Code := bodyOf f64
theorem rewrite_each_Rewrite.l0.step (n m0 : Nat) (f_1 : (Int → Option Tern)) (v5 : Int) (v2 : Rewrite) (out : Rewrite) : it (rewrite_each_Rewrite.C n) n (Code.go rewrite_each_Rewrite.code [1, 1, 0, 1, 0, 0]) (blockK 0 (seqK (rewrite_each_Rewrite.C n) n (Code.go rewrite_each_Rewrite.code [1, 1, 1]) (bodyK (rewrite_each_Rewrite.C n) f64 rewrite_each_Rewrite.rs))) (m0 + 1) ⟨[(0, .fn [(.int .i64)] [TTern] f_1), (2, .ptr 2 0 TRewrite []), (3, .ptr 3 0 TRewrite []), (5, .dat (.int .i64) v5)], [(2, .box 0 false (.dat TRewrite v2)), (3, .box 0 false (.dat TRewrite out))]⟩ = rewrite_each_Rewrite.s0 n (fun (v5' : Int) (out' : Rewrite) => it (rewrite_each_Rewrite.C n) n (Code.go rewrite_each_Rewrite.code [1, 1, 0, 1, 0, 0]) (blockK 0 (seqK (rewrite_each_Rewrite.C n) n (Code.go rewrite_each_Rewrite.code [1, 1, 1]) (bodyK (rewrite_each_Rewrite.C n) f64 rewrite_each_Rewrite.rs))) m0 ⟨[(0, .fn [(.int .i64)] [TTern] f_1), (2, .ptr 2 0 TRewrite []), (3, .ptr 3 0 TRewrite []), (5, .dat (.int .i64) (v5'))], [(2, .box 0 false (.dat TRewrite v2)), (3, .box 0 false (.dat TRewrite (out')))]⟩) f_1 v5 v2 out := by kernel_rfl
theorem rewrite_each_Rewrite.l0.eq (n : Nat) (f_1 : (Int → Option Tern)) (v2 : Rewrite) : ∀ (m0 : Nat) (v5 : Int) (out : Rewrite), it (rewrite_each_Rewrite.C n) n (Code.go rewrite_each_Rewrite.code [1, 1, 0, 1, 0, 0]) (blockK 0 (seqK (rewrite_each_Rewrite.C n) n (Code.go rewrite_each_Rewrite.code [1, 1, 1]) (bodyK (rewrite_each_Rewrite.C n) f64 rewrite_each_Rewrite.rs))) m0 ⟨[(0, .fn [(.int .i64)] [TTern] f_1), (2, .ptr 2 0 TRewrite []), (3, .ptr 3 0 TRewrite []), (5, .dat (.int .i64) v5)], [(2, .box 0 false (.dat TRewrite v2)), (3, .box 0 false (.dat TRewrite out))]⟩ = rewrite_each_Rewrite.l0 n f_1 v2 m0 v5 out
  | 0, _, _ => rfl
  | m0 + 1, v5, out =>
    (rewrite_each_Rewrite.l0.step n m0 f_1 v5 v2 out).trans (congrArg (fun k0 => rewrite_each_Rewrite.s0 n k0 f_1 v5 v2 out) (funext fun v5' => funext fun out' => rewrite_each_Rewrite.l0.eq n f_1 v2 m0 v5' out'))
theorem rewrite_each_Rewrite.run0 (n : Nat) (x : pdens rewrite_each_Rewrite.ps) : Vi.run (rewrite_each_Rewrite.C n) n f64 rewrite_each_Rewrite.ps rewrite_each_Rewrite.rs x = rewrite_each_Rewrite.s n (fun (f_1' : (Int → Option Tern)) (v5' : Int) (v2' : Rewrite) (out' : Rewrite) => it (rewrite_each_Rewrite.C n) n (Code.go rewrite_each_Rewrite.code [1, 1, 0, 1, 0, 0]) (blockK 0 (seqK (rewrite_each_Rewrite.C n) n (Code.go rewrite_each_Rewrite.code [1, 1, 1]) (bodyK (rewrite_each_Rewrite.C n) f64 rewrite_each_Rewrite.rs))) n ⟨[(0, .fn [(.int .i64)] [TTern] (f_1')), (2, .ptr 2 0 TRewrite []), (3, .ptr 3 0 TRewrite []), (5, .dat (.int .i64) (v5'))], [(2, .box 0 false (.dat TRewrite (v2'))), (3, .box 0 false (.dat TRewrite (out')))]⟩) x := by kernel_rfl
theorem rewrite_each_Rewrite.eq (n : Nat) (x : pdens rewrite_each_Rewrite.ps) : Vi.run (rewrite_each_Rewrite.C n) n f64 rewrite_each_Rewrite.ps rewrite_each_Rewrite.rs x = rewrite_each_Rewrite n x :=
  (rewrite_each_Rewrite.run0 n x).trans (congrArg (fun k0 => rewrite_each_Rewrite.s n k0 x) (funext fun f_1' => funext fun v5' => funext fun v2' => funext fun out' => rewrite_each_Rewrite.l0.eq n f_1' v2' n v5' out'))
theorem rewrite_each_Rewrite.sound (n : Nat) : SoundE prog 64 (rewrite_each_Rewrite.e n) :=
  soundE_of_run (C := rewrite_each_Rewrite.C n) (n := n) (rewrite_each_Rewrite.ok n) func64 (by kernel_rfl) (by kernel_rfl) (fun x r h => (rewrite_each_Rewrite.eq n x).trans h)

def rewrite_Then.rs : List RTy := [.data TRewrite]
def rewrite_Then.ps : List PTy := [.data TRewrite, .data TRewrite]
noncomputable def rewrite_Then.e (n : Nat) : Ent := ⟨rewrite_Then.ps, rewrite_Then.rs, fun x => rewrite_Then n x.1 x.2⟩
noncomputable def rewrite_Then.C (n : Nat) : Ctx := { tab := tab, fts := fts, Γ := lookO [(64, rewrite_each_Rewrite.e n)], Γc := lookO [(65, rewrite_Then_1.e n)], ntmps := f28.ntmps, keep := Vi.look ([], []) [] }
theorem rewrite_Then.ok (n : Nat) : CtxOk prog (rewrite_Then.C n) := ⟨types, ftsOk_, (fns_cons (rewrite_each_Rewrite.sound n) fns_nil), (cls_cons (rewrite_Then_1.sound n) cls_nil), mixed⟩
theorem rewrite_Then.eq (n : Nat) (x : pdens rewrite_Then.ps) : Vi.run (rewrite_Then.C n) n f28 rewrite_Then.ps rewrite_Then.rs x = rewrite_Then n x.1 x.2 := by kernel_rfl
theorem rewrite_Then.sound (n : Nat) : SoundE prog 28 (rewrite_Then.e n) :=
  soundE_of_run (C := rewrite_Then.C n) (n := n) (rewrite_Then.ok n) func28 (by kernel_rfl) (by kernel_rfl) (fun x r h => (rewrite_Then.eq n x).trans h)

def ref09_Clean.rs : List RTy := [.data TRewrite]
def ref09_Clean.ps : List PTy := [.data TRewrite]
noncomputable def ref09_Clean.e (n : Nat) : Ent := ⟨ref09_Clean.ps, ref09_Clean.rs, fun x => ref09_Clean n x⟩
noncomputable def ref09_Clean.C (n : Nat) : Ctx := { tab := tab, fts := fts, Γ := lookO [(58, ref05_Clean.e n)], Γc := lookO [], ntmps := f33.ntmps, keep := Vi.look ([], []) [(2, ([1, 2, 3], [1, 2]))] }
theorem ref09_Clean.ok (n : Nat) : CtxOk prog (ref09_Clean.C n) := ⟨types, ftsOk_, (fns_cons (ref05_Clean.sound n) fns_nil), cls_nil, mixed⟩
noncomputable def ref09_Clean.code : Code := bodyOf f33
theorem ref09_Clean.l0.step (n m0 : Nat) (f : Int) (r_1 : Rewrite) (v2 : Rewrite) : it (ref09_Clean.C n) n (Code.go ref09_Clean.code [1, 0, 1, 0, 0]) (blockK 0 (seqK (ref09_Clean.C n) n (Code.go ref09_Clean.code [1, 1]) (bodyK (ref09_Clean.C n) f33 ref09_Clean.rs))) (m0 + 1) ⟨[(1, .ptr 1 0 TRewrite []), (2, .ptr 2 0 TRewrite []), (3, .dat (.int .i64) f)], [(1, .box 0 false (.dat TRewrite r_1)), (2, .box 0 false (.dat TRewrite v2))]⟩ = ref09_Clean.s0 n (fun (f' : Int) (r_1' : Rewrite) => it (ref09_Clean.C n) n (Code.go ref09_Clean.code [1, 0, 1, 0, 0]) (blockK 0 (seqK (ref09_Clean.C n) n (Code.go ref09_Clean.code [1, 1]) (bodyK (ref09_Clean.C n) f33 ref09_Clean.rs))) m0 ⟨[(1, .ptr 1 0 TRewrite []), (2, .ptr 2 0 TRewrite []), (3, .dat (.int .i64) (f'))], [(1, .box 0 false (.dat TRewrite (r_1'))), (2, .box 0 false (.dat TRewrite v2))]⟩) f r_1 v2 := by kernel_rfl
theorem ref09_Clean.l0.eq (n : Nat) (v2 : Rewrite) : ∀ (m0 : Nat) (f : Int) (r_1 : Rewrite), it (ref09_Clean.C n) n (Code.go ref09_Clean.code [1, 0, 1, 0, 0]) (blockK 0 (seqK (ref09_Clean.C n) n (Code.go ref09_Clean.code [1, 1]) (bodyK (ref09_Clean.C n) f33 ref09_Clean.rs))) m0 ⟨[(1, .ptr 1 0 TRewrite []), (2, .ptr 2 0 TRewrite []), (3, .dat (.int .i64) f)], [(1, .box 0 false (.dat TRewrite r_1)), (2, .box 0 false (.dat TRewrite v2))]⟩ = ref09_Clean.l0 n v2 m0 f r_1
  | 0, _, _ => rfl
  | m0 + 1, f, r_1 =>
    (ref09_Clean.l0.step n m0 f r_1 v2).trans (congrArg (fun k0 => ref09_Clean.s0 n k0 f r_1 v2) (funext fun f' => funext fun r_1' => ref09_Clean.l0.eq n v2 m0 f' r_1'))
theorem ref09_Clean.run0 (n : Nat) (x : pdens ref09_Clean.ps) : Vi.run (ref09_Clean.C n) n f33 ref09_Clean.ps ref09_Clean.rs x = ref09_Clean.s n (fun (f' : Int) (r_1' : Rewrite) (v2' : Rewrite) => it (ref09_Clean.C n) n (Code.go ref09_Clean.code [1, 0, 1, 0, 0]) (blockK 0 (seqK (ref09_Clean.C n) n (Code.go ref09_Clean.code [1, 1]) (bodyK (ref09_Clean.C n) f33 ref09_Clean.rs))) n ⟨[(1, .ptr 1 0 TRewrite []), (2, .ptr 2 0 TRewrite []), (3, .dat (.int .i64) (f'))], [(1, .box 0 false (.dat TRewrite (r_1'))), (2, .box 0 false (.dat TRewrite (v2')))]⟩) x := by kernel_rfl
theorem ref09_Clean.eq (n : Nat) (x : pdens ref09_Clean.ps) : Vi.run (ref09_Clean.C n) n f33 ref09_Clean.ps ref09_Clean.rs x = ref09_Clean n x :=
  (ref09_Clean.run0 n x).trans (congrArg (fun k0 => ref09_Clean.s n k0 x) (funext fun f' => funext fun r_1' => funext fun v2' => ref09_Clean.l0.eq n v2' n f' r_1'))
theorem ref09_Clean.sound (n : Nat) : SoundE prog 33 (ref09_Clean.e n) :=
  soundE_of_run (C := ref09_Clean.C n) (n := n) (ref09_Clean.ok n) func33 (by kernel_rfl) (by kernel_rfl) (fun x r h => (ref09_Clean.eq n x).trans h)

def ref09_Then.rs : List RTy := [.data TRewrite]
def ref09_Then.ps : List PTy := [.data TRewrite, .data TRewrite]
noncomputable def ref09_Then.e (n : Nat) : Ent := ⟨ref09_Then.ps, ref09_Then.rs, fun x => ref09_Then n x.1 x.2⟩
noncomputable def ref09_Then.C (n : Nat) : Ctx := { tab := tab, fts := fts, Γ := lookO [(33, ref09_Clean.e n), (59, ref02_Less.e n), (62, ref02_Or.e n)], Γc := lookO [], ntmps := f29.ntmps, keep := Vi.look ([], []) [(3, ([2, 3, 4, 5], [2, 3, 4]))] }
theorem ref09_Then.ok (n : Nat) : CtxOk prog (ref09_Then.C n) := ⟨types, ftsOk_, (fns_cons (ref09_Clean.sound n) (fns_cons (ref02_Less.sound n) (fns_cons (ref02_Or.sound n) fns_nil))), cls_nil, mixed⟩
noncomputable def ref09_Then.code : Code := bodyOf f29
theorem ref09_Then.l0.step (n m0 : Nat) (f : Int) (a_1 : Rewrite) (b_1 : Rewrite) (v4 : Rewrite) : it (ref09_Then.C n) n (Code.go ref09_Then.code [1, 1, 0, 1, 0, 0]) (blockK 0 (seqK (ref09_Then.C n) n (Code.go ref09_Then.code [1, 1, 1]) (bodyK (ref09_Then.C n) f29 ref09_Then.rs))) (m0 + 1) ⟨[(2, .ptr 2 0 TRewrite []), (3, .ptr 3 0 TRewrite []), (4, .ptr 4 0 TRewrite []), (5, .dat (.int .i64) f)], [(2, .box 0 false (.dat TRewrite a_1)), (3, .box 0 false (.dat TRewrite b_1)), (4, .box 0 false (.dat TRewrite v4))]⟩ = ref09_Then.s0 n (fun (f' : Int) (a_1' : Rewrite) => it (ref09_Then.C n) n (Code.go ref09_Then.code [1, 1, 0, 1, 0, 0]) (blockK 0 (seqK (ref09_Then.C n) n (Code.go ref09_Then.code [1, 1, 1]) (bodyK (ref09_Then.C n) f29 ref09_Then.rs))) m0 ⟨[(2, .ptr 2 0 TRewrite []), (3, .ptr 3 0 TRewrite []), (4, .ptr 4 0 TRewrite []), (5, .dat (.int .i64) (f'))], [(2, .box 0 false (.dat TRewrite (a_1'))), (3, .box 0 false (.dat TRewrite b_1)), (4, .box 0 false (.dat TRewrite v4))]⟩) f a_1 b_1 v4 := by kernel_rfl
theorem ref09_Then.l0.eq (n : Nat) (b_1 : Rewrite) (v4 : Rewrite) : ∀ (m0 : Nat) (f : Int) (a_1 : Rewrite), it (ref09_Then.C n) n (Code.go ref09_Then.code [1, 1, 0, 1, 0, 0]) (blockK 0 (seqK (ref09_Then.C n) n (Code.go ref09_Then.code [1, 1, 1]) (bodyK (ref09_Then.C n) f29 ref09_Then.rs))) m0 ⟨[(2, .ptr 2 0 TRewrite []), (3, .ptr 3 0 TRewrite []), (4, .ptr 4 0 TRewrite []), (5, .dat (.int .i64) f)], [(2, .box 0 false (.dat TRewrite a_1)), (3, .box 0 false (.dat TRewrite b_1)), (4, .box 0 false (.dat TRewrite v4))]⟩ = ref09_Then.l0 n b_1 v4 m0 f a_1
  | 0, _, _ => rfl
  | m0 + 1, f, a_1 =>
    (ref09_Then.l0.step n m0 f a_1 b_1 v4).trans (congrArg (fun k0 => ref09_Then.s0 n k0 f a_1 b_1 v4) (funext fun f' => funext fun a_1' => ref09_Then.l0.eq n b_1 v4 m0 f' a_1'))
theorem ref09_Then.run0 (n : Nat) (x : pdens ref09_Then.ps) : Vi.run (ref09_Then.C n) n f29 ref09_Then.ps ref09_Then.rs x = ref09_Then.s n (fun (f' : Int) (a_1' : Rewrite) (b_1' : Rewrite) (v4' : Rewrite) => it (ref09_Then.C n) n (Code.go ref09_Then.code [1, 1, 0, 1, 0, 0]) (blockK 0 (seqK (ref09_Then.C n) n (Code.go ref09_Then.code [1, 1, 1]) (bodyK (ref09_Then.C n) f29 ref09_Then.rs))) n ⟨[(2, .ptr 2 0 TRewrite []), (3, .ptr 3 0 TRewrite []), (4, .ptr 4 0 TRewrite []), (5, .dat (.int .i64) (f'))], [(2, .box 0 false (.dat TRewrite (a_1'))), (3, .box 0 false (.dat TRewrite (b_1'))), (4, .box 0 false (.dat TRewrite (v4')))]⟩) x.1 x.2 := by kernel_rfl
theorem ref09_Then.eq (n : Nat) (x : pdens ref09_Then.ps) : Vi.run (ref09_Then.C n) n f29 ref09_Then.ps ref09_Then.rs x = ref09_Then n x.1 x.2 :=
  (ref09_Then.run0 n x).trans (congrArg (fun k0 => ref09_Then.s n k0 x.1 x.2) (funext fun f' => funext fun a_1' => funext fun b_1' => funext fun v4' => ref09_Then.l0.eq n b_1' v4' n f' a_1'))
theorem ref09_Then.sound (n : Nat) : SoundE prog 29 (ref09_Then.e n) :=
  soundE_of_run (C := ref09_Then.C n) (n := n) (ref09_Then.ok n) func29 (by kernel_rfl) (by kernel_rfl) (fun x r h => (ref09_Then.eq n x).trans h)

def rewrite_After_1.rs : List Ty := [TTern]
def rewrite_After_1.ps : List Ty := [(.int .i64)]
def rewrite_After_1.caps : List PTy := [.cptr TRewrite, .cptr TRewrite]
noncomputable def rewrite_After_1.e (n : Nat) : Cl := ⟨rewrite_After_1.ps, rewrite_After_1.caps, rewrite_After_1.rs, fun x c => rewrite_After_1 x c.1 c.2⟩
noncomputable def rewrite_After_1.C (n : Nat) : Ctx := { tab := tab, fts := fts, Γ := lookO [(66, rewrite_over.e n)], Γc := lookO [], ntmps := f67.ntmps, keep := Vi.look ([], []) [] }
theorem rewrite_After_1.ok (n : Nat) : CtxOk prog (rewrite_After_1.C n) := ⟨types, ftsOk_, (fns_cons (rewrite_over.sound n) fns_nil), cls_nil, mixed⟩
theorem rewrite_After_1.eq (n : Nat) (x : dens rewrite_After_1.ps) (c : pdens rewrite_After_1.caps) : Vi.runC (rewrite_After_1.C n) n f67 rewrite_After_1.ps rewrite_After_1.caps rewrite_After_1.rs x c = rewrite_After_1 x c.1 c.2 := by kernel_rfl
theorem rewrite_After_1.sound (n : Nat) : SoundC prog 67 (rewrite_After_1.e n) :=
  soundC_of_run (C := rewrite_After_1.C n) (n := n) (rewrite_After_1.ok n) func67 (by kernel_rfl) (by kernel_rfl) (fun x c r h => (rewrite_After_1.eq n x c).trans h)

def rewrite_After.rs : List RTy := [.data TRewrite]
def rewrite_After.ps : List PTy := [.data TRewrite, .data TRewrite]
noncomputable def rewrite_After.e (n : Nat) : Ent := ⟨rewrite_After.ps, rewrite_After.rs, fun x => rewrite_After n x.1 x.2⟩
noncomputable def rewrite_After.C (n : Nat) : Ctx := { tab := tab, fts := fts, Γ := lookO [(53, rewrite_each_Cube.e n)], Γc := lookO [(67, rewrite_After_1.e n)], ntmps := f30.ntmps, keep := Vi.look ([], []) [] }
theorem rewrite_After.ok (n : Nat) : CtxOk prog (rewrite_After.C n) := ⟨types, ftsOk_, (fns_cons (rewrite_each_Cube.sound n) fns_nil), (cls_cons (rewrite_After_1.sound n) cls_nil), mixed⟩
theorem rewrite_After.eq (n : Nat) (x : pdens rewrite_After.ps) : Vi.run (rewrite_After.C n) n f30 rewrite_After.ps rewrite_After.rs x = rewrite_After n x.1 x.2 := by kernel_rfl
theorem rewrite_After.sound (n : Nat) : SoundE prog 30 (rewrite_After.e n) :=
  soundE_of_run (C := rewrite_After.C n) (n := n) (rewrite_After.ok n) func30 (by kernel_rfl) (by kernel_rfl) (fun x r h => (rewrite_After.eq n x).trans h)

def ref09_After.rs : List RTy := [.data TRewrite]
def ref09_After.ps : List PTy := [.data TRewrite, .data TRewrite]
noncomputable def ref09_After.e (n : Nat) : Ent := ⟨ref09_After.ps, ref09_After.rs, fun x => ref09_After n x.1 x.2⟩
noncomputable def ref09_After.C (n : Nat) : Ctx := { tab := tab, fts := fts, Γ := lookO [(58, ref05_Clean.e n), (59, ref02_Less.e n), (62, ref02_Or.e n), (63, ref02_And.e n)], Γc := lookO [], ntmps := f31.ntmps, keep := Vi.look ([], []) [(3, ([2, 3, 4, 5, 6], [2, 3, 4, 5]))] }
theorem ref09_After.ok (n : Nat) : CtxOk prog (ref09_After.C n) := ⟨types, ftsOk_, (fns_cons (ref05_Clean.sound n) (fns_cons (ref02_Less.sound n) (fns_cons (ref02_Or.sound n) (fns_cons (ref02_And.sound n) fns_nil)))), cls_nil, mixed⟩
noncomputable def ref09_After.code : Code := bodyOf f31
theorem ref09_After.l0.step (n m0 : Nat) (f : Int) (r_1 : Rewrite) (c_1 : Rewrite) (v4 : Rewrite) (out : Rewrite) : it (ref09_After.C n) n (Code.go ref09_After.code [1, 1, 0, 1, 0, 0]) (blockK 0 (seqK (ref09_After.C n) n (Code.go ref09_After.code [1, 1, 1]) (bodyK (ref09_After.C n) f31 ref09_After.rs))) (m0 + 1) ⟨[(2, .ptr 2 0 TRewrite []), (3, .ptr 3 0 TRewrite []), (4, .ptr 4 0 TRewrite []), (5, .ptr 5 0 TRewrite []), (6, .dat (.int .i64) f)], [(2, .box 0 false (.dat TRewrite r_1)), (3, .box 0 false (.dat TRewrite c_1)), (4, .box 0 false (.dat TRewrite v4)), (5, .box 0 false (.dat TRewrite out))]⟩ = ref09_After.s0 n (fun (f' : Int) (out' : Rewrite) => it (ref09_After.C n) n (Code.go ref09_After.code [1, 1, 0, 1, 0, 0]) (blockK 0 (seqK (ref09_After.C n) n (Code.go ref09_After.code [1, 1, 1]) (bodyK (ref09_After.C n) f31 ref09_After.rs))) m0 ⟨[(2, .ptr 2 0 TRewrite []), (3, .ptr 3 0 TRewrite []), (4, .ptr 4 0 TRewrite []), (5, .ptr 5 0 TRewrite []), (6, .dat (.int .i64) (f'))], [(2, .box 0 false (.dat TRewrite r_1)), (3, .box 0 false (.dat TRewrite c_1)), (4, .box 0 false (.dat TRewrite v4)), (5, .box 0 false (.dat TRewrite (out')))]⟩) f r_1 c_1 v4 out := by kernel_rfl
theorem ref09_After.l0.eq (n : Nat) (r_1 : Rewrite) (c_1 : Rewrite) (v4 : Rewrite) : ∀ (m0 : Nat) (f : Int) (out : Rewrite), it (ref09_After.C n) n (Code.go ref09_After.code [1, 1, 0, 1, 0, 0]) (blockK 0 (seqK (ref09_After.C n) n (Code.go ref09_After.code [1, 1, 1]) (bodyK (ref09_After.C n) f31 ref09_After.rs))) m0 ⟨[(2, .ptr 2 0 TRewrite []), (3, .ptr 3 0 TRewrite []), (4, .ptr 4 0 TRewrite []), (5, .ptr 5 0 TRewrite []), (6, .dat (.int .i64) f)], [(2, .box 0 false (.dat TRewrite r_1)), (3, .box 0 false (.dat TRewrite c_1)), (4, .box 0 false (.dat TRewrite v4)), (5, .box 0 false (.dat TRewrite out))]⟩ = ref09_After.l0 n r_1 c_1 v4 m0 f out
  | 0, _, _ => rfl
  | m0 + 1, f, out =>
    (ref09_After.l0.step n m0 f r_1 c_1 v4 out).trans (congrArg (fun k0 => ref09_After.s0 n k0 f r_1 c_1 v4 out) (funext fun f' => funext fun out' => ref09_After.l0.eq n r_1 c_1 v4 m0 f' out'))
theorem ref09_After.run0 (n : Nat) (x : pdens ref09_After.ps) : Vi.run (ref09_After.C n) n f31 ref09_After.ps ref09_After.rs x = ref09_After.s n (fun (f' : Int) (r_1' : Rewrite) (c_1' : Rewrite) (v4' : Rewrite) (out' : Rewrite) => it (ref09_After.C n) n (Code.go ref09_After.code [1, 1, 0, 1, 0, 0]) (blockK 0 (seqK (ref09_After.C n) n (Code.go ref09_After.code [1, 1, 1]) (bodyK (ref09_After.C n) f31 ref09_After.rs))) n ⟨[(2, .ptr 2 0 TRewrite []), (3, .ptr 3 0 TRewrite []), (4, .ptr 4 0 TRewrite []), (5, .ptr 5 0 TRewrite []), (6, .dat (.int .i64) (f'))], [(2, .box 0 false (.dat TRewrite (r_1'))), (3, .box 0 false (.dat TRewrite (c_1'))), (4, .box 0 false (.dat TRewrite (v4'))), (5, .box 0 false (.dat TRewrite (out')))]⟩) x.1 x.2 := by kernel_rfl
theorem ref09_After.eq (n : Nat) (x : pdens ref09_After.ps) : Vi.run (ref09_After.C n) n f31 ref09_After.ps ref09_After.rs x = ref09_After n x.1 x.2 :=
  (ref09_After.run0 n x).trans (congrArg (fun k0 => ref09_After.s n k0 x.1 x.2) (funext fun f' => funext fun r_1' => funext fun c_1' => funext fun v4' => funext fun out' => ref09_After.l0.eq n r_1' c_1' v4' n f' out'))
theorem ref09_After.sound (n : Nat) : SoundE prog 31 (ref09_After.e n) :=
  soundE_of_run (C := ref09_After.C n) (n := n) (ref09_After.ok n) func31 (by kernel_rfl) (by kernel_rfl) (fun x r h => (ref09_After.eq n x).trans h)

def rewrite_Clean_1.rs : List Ty := [TTern]
def rewrite_Clean_1.ps : List Ty := [(.int .i64)]
def rewrite_Clean_1.caps : List PTy := [.cptr TRewrite]
noncomputable def rewrite_Clean_1.e (n : Nat) : Cl := ⟨rewrite_Clean_1.ps, rewrite_Clean_1.caps, rewrite_Clean_1.rs, fun x c => rewrite_Clean_1 x c⟩
noncomputable def rewrite_Clean_1.C (n : Nat) : Ctx := { tab := tab, fts := fts, Γ := lookO [(55, tern_Clean.e n)], Γc := lookO [], ntmps := f68.ntmps, keep := Vi.look ([], []) [] }
theorem rewrite_Clean_1.ok (n : Nat) : CtxOk prog (rewrite_Clean_1.C n) := ⟨types, ftsOk_, (fns_cons (tern_Clean.sound n) fns_nil), cls_nil, mixed⟩
theorem rewrite_Clean_1.eq (n : Nat) (x : dens rewrite_Clean_1.ps) (c : pdens rewrite_Clean_1.caps) : Vi.runC (rewrite_Clean_1.C n) n f68 rewrite_Clean_1.ps rewrite_Clean_1.caps rewrite_Clean_1.rs x c = rewrite_Clean_1 x c := by kernel_rfl
theorem rewrite_Clean_1.sound (n : Nat) : SoundC prog 68 (rewrite_Clean_1.e n) :=
  soundC_of_run (C := rewrite_Clean_1.C n) (n := n) (rewrite_Clean_1.ok n) func68 (by kernel_rfl) (by kernel_rfl) (fun x c r h => (rewrite_Clean_1.eq n x c).trans h)

def rewrite_Clean.rs : List RTy := [.data TRewrite]
def rewrite_Clean.ps : List PTy := [.data TRewrite]
noncomputable def rewrite_Clean.e (n : Nat) : Ent := ⟨rewrite_Clean.ps, rewrite_Clean.rs, fun x => rewrite_Clean n x⟩
noncomputable def rewrite_Clean.C (n : Nat) : Ctx := { tab := tab, fts := fts, Γ := lookO [(64, rewrite_each_Rewrite.e n)], Γc := lookO [(68, rewrite_Clean_1.e n)], ntmps := f32.ntmps, keep := Vi.look ([], []) [] }
theorem rewrite_Clean.ok (n : Nat) : CtxOk prog (rewrite_Clean.C n) := ⟨types, ftsOk_, (fns_cons (rewrite_each_Rewrite.sound n) fns_nil), (cls_cons (rewrite_Clean_1.sound n) cls_nil), mixed⟩
theorem rewrite_Clean.eq (n : Nat) (x : pdens rewrite_Clean.ps) : Vi.run (rewrite_Clean.C n) n f32 rewrite_Clean.ps rewrite_Clean.rs x = rewrite_Clean n x := by kernel_rfl
theorem rewrite_Clean.sound (n : Nat) : SoundE prog 32 (rewrite_Clean.e n) :=
  soundE_of_run (C := rewrite_Clean.C n) (n := n) (rewrite_Clean.ok n) func32 (by kernel_rfl) (by kernel_rfl) (fun x r h => (rewrite_Clean.eq n x).trans h)

def rewrite_None.rs : List RTy := [.data TRewrite]
def rewrite_None.ps : List PTy := []
noncomputable def rewrite_None.e (n : Nat) : Ent := ⟨rewrite_None.ps, rewrite_None.rs, fun x => some (rewrite_None)⟩
noncomputable def rewrite_None.C (n : Nat) : Ctx := { tab := tab, fts := fts, Γ := lookO [], Γc := lookO [], ntmps := f34.ntmps, keep := Vi.look ([], []) [] }
theorem rewrite_None.ok (n : Nat) : CtxOk prog (rewrite_None.C n) := ⟨types, ftsOk_, fns_nil, cls_nil, mixed⟩
theorem rewrite_None.eq (n : Nat) (x : pdens rewrite_None.ps) : Vi.run (rewrite_None.C n) n f34 rewrite_None.ps rewrite_None.rs x = some (rewrite_None) := by kernel_rfl
theorem rewrite_None.sound (n : Nat) : SoundE prog 34 (rewrite_None.e n) :=
  soundE_of_run (C := rewrite_None.C n) (n := n) (rewrite_None.ok n) func34 (by kernel_rfl) (by kernel_rfl) (fun x r h => (rewrite_None.eq n x).trans h)

def ref09_None.rs : List RTy := [.data TRewrite]
def ref09_None.ps : List PTy := []
noncomputable def ref09_None.e (n : Nat) : Ent := ⟨ref09_None.ps, ref09_None.rs, fun x => some (ref09_None)⟩
noncomputable def ref09_None.C (n : Nat) : Ctx := { tab := tab, fts := fts, Γ := lookO [], Γc := lookO [], ntmps := f35.ntmps, keep := Vi.look ([], []) [] }
theorem ref09_None.ok (n : Nat) : CtxOk prog (ref09_None.C n) := ⟨types, ftsOk_, fns_nil, cls_nil, mixed⟩
theorem ref09_None.eq (n : Nat) (x : pdens ref09_None.ps) : Vi.run (ref09_None.C n) n f35 ref09_None.ps ref09_None.rs x = some (ref09_None) := by kernel_rfl
theorem ref09_None.sound (n : Nat) : SoundE prog 35 (ref09_None.e n) :=
  soundE_of_run (C := ref09_None.C n) (n := n) (ref09_None.ok n) func35 (by kernel_rfl) (by kernel_rfl) (fun x r h => (ref09_None.eq n x).trans h)

def field_Right.rs : List RTy := [.data .bool]
def field_Right.ps : List PTy := [.data (.int .i64)]
noncomputable def field_Right.e (n : Nat) : Ent := ⟨field_Right.ps, field_Right.rs, fun x => some (field_Right x)⟩
noncomputable def field_Right.C (n : Nat) : Ctx := { tab := tab, fts := fts, Γ := lookO [], Γc := lookO [], ntmps := f70.ntmps, keep := Vi.look ([], []) [] }
theorem field_Right.ok (n : Nat) : CtxOk prog (field_Right.C n) := ⟨types, ftsOk_, fns_nil, cls_nil, mixed⟩
theorem field_Right.run0 (n : Nat) (x : pdens field_Right.ps) : Vi.run (field_Right.C n) n f70 field_Right.ps field_Right.rs x = field_Right.o x := by kernel_rfl
theorem field_Right.eq (n : Nat) (x : pdens field_Right.ps) : Vi.run (field_Right.C n) n f70 field_Right.ps field_Right.rs x = some (field_Right x) := (field_Right.run0 n x).trans (field_Right.o_eq _)
theorem field_Right.sound (n : Nat) : SoundE prog 70 (field_Right.e n) :=
  soundE_of_run (C := field_Right.C n) (n := n) (field_Right.ok n) func70 (by kernel_rfl) (by kernel_rfl) (fun x r h => (field_Right.eq n x).trans h)

def rewrite_Set.rs : List RTy := [.data TRewrite]
def rewrite_Set.ps : List PTy := [.data TRewrite, .data (.int .i64), .data TWide, .data TWide]
noncomputable def rewrite_Set.e (n : Nat) : Ent := ⟨rewrite_Set.ps, rewrite_Set.rs, fun x => rewrite_Set n x.1 x.2.1 x.2.2.1 x.2.2.2⟩
noncomputable def rewrite_Set.C (n : Nat) : Ctx := { tab := tab, fts := fts, Γ := lookO [(32, rewrite_Clean.e n), (66, rewrite_over.e n), (70, field_Right.e n)], Γc := lookO [], ntmps := f37.ntmps, keep := Vi.look ([], []) [] }
theorem rewrite_Set.ok (n : Nat) : CtxOk prog (rewrite_Set.C n) := ⟨types, ftsOk_, (fns_cons (rewrite_Clean.sound n) (fns_cons (rewrite_over.sound n) (fns_cons (field_Right.sound n) fns_nil))), cls_nil, mixed⟩
theorem rewrite_Set.eq (n : Nat) (x : pdens rewrite_Set.ps) : Vi.run (rewrite_Set.C n) n f37 rewrite_Set.ps rewrite_Set.rs x = rewrite_Set n x.1 x.2.1 x.2.2.1 x.2.2.2 := by kernel_rfl
theorem rewrite_Set.sound (n : Nat) : SoundE prog 37 (rewrite_Set.e n) :=
  soundE_of_run (C := rewrite_Set.C n) (n := n) (rewrite_Set.ok n) func37 (by kernel_rfl) (by kernel_rfl) (fun x r h => (rewrite_Set.eq n x).trans h)

def cube_All.rs : List RTy := [.data TRewrite]
def cube_All.ps : List PTy := []
noncomputable def cube_All.e (n : Nat) : Ent := ⟨cube_All.ps, cube_All.rs, fun x => some (cube_All)⟩
noncomputable def cube_All.C (n : Nat) : Ctx := { tab := tab, fts := fts, Γ := lookO [], Γc := lookO [], ntmps := f69.ntmps, keep := Vi.look ([], []) [] }
theorem cube_All.ok (n : Nat) : CtxOk prog (cube_All.C n) := ⟨types, ftsOk_, fns_nil, cls_nil, mixed⟩
theorem cube_All.eq (n : Nat) (x : pdens cube_All.ps) : Vi.run (cube_All.C n) n f69 cube_All.ps cube_All.rs x = some (cube_All) := by kernel_rfl
theorem cube_All.sound (n : Nat) : SoundE prog 69 (cube_All.e n) :=
  soundE_of_run (C := cube_All.C n) (n := n) (cube_All.ok n) func69 (by kernel_rfl) (by kernel_rfl) (fun x r h => (cube_All.eq n x).trans h)

def law09_awake.rs : List RTy := [.data .bool]
def law09_awake.ps : List PTy := []
noncomputable def law09_awake.e (n : Nat) : Ent := ⟨law09_awake.ps, law09_awake.rs, fun x => law09_awake n⟩
noncomputable def law09_awake.C (n : Nat) : Ctx := { tab := tab, fts := fts, Γ := lookO [(24, rewrite_Before.e n), (26, rewrite_Apply.e n), (28, rewrite_Then.e n), (30, rewrite_After.e n), (32, rewrite_Clean.e n), (34, rewrite_None.e n), (37, rewrite_Set.e n), (69, cube_All.e n)], Γc := lookO [], ntmps := f36.ntmps, keep := Vi.look ([], []) [] }
theorem law09_awake.ok (n : Nat) : CtxOk prog (law09_awake.C n) := ⟨types, ftsOk_, (fns_cons (rewrite_Before.sound n) (fns_cons (rewrite_Apply.sound n) (fns_cons (rewrite_Then.sound n) (fns_cons (rewrite_After.sound n) (fns_cons (rewrite_Clean.sound n) (fns_cons (rewrite_None.sound n) (fns_cons (rewrite_Set.sound n) (fns_cons (cube_All.sound n) fns_nil)))))))), cls_nil, mixed⟩
theorem law09_awake.eq (n : Nat) (x : pdens law09_awake.ps) : Vi.run (law09_awake.C n) n f36 law09_awake.ps law09_awake.rs x = law09_awake n := by kernel_rfl
theorem law09_awake.sound (n : Nat) : SoundE prog 36 (law09_awake.e n) :=
  soundE_of_run (C := law09_awake.C n) (n := n) (law09_awake.ok n) func36 (by kernel_rfl) (by kernel_rfl) (fun x r h => (law09_awake.eq n x).trans h)

def law09_RewriteTells.rs : List RTy := [.data .bool]
def law09_RewriteTells.ps : List PTy := [.data TRewrite, .data TRewrite, .data TRewrite, .data THeader]
noncomputable def law09_RewriteTells.e (n : Nat) : Ent := ⟨law09_RewriteTells.ps, law09_RewriteTells.rs, fun x => law09_RewriteTells n x.1 x.2.1 x.2.2.1 x.2.2.2⟩
noncomputable def law09_RewriteTells.C (n : Nat) : Ctx := { tab := tab, fts := fts, Γ := lookO [(24, rewrite_Before.e n), (25, ref09_Before.e n), (26, rewrite_Apply.e n), (27, ref09_Apply.e n), (28, rewrite_Then.e n), (29, ref09_Then.e n), (30, rewrite_After.e n), (31, ref09_After.e n), (32, rewrite_Clean.e n), (33, ref09_Clean.e n), (34, rewrite_None.e n), (35, ref09_None.e n), (36, law09_awake.e n)], Γc := lookO [], ntmps := f6.ntmps, keep := Vi.look ([], []) [] }
theorem law09_RewriteTells.ok (n : Nat) : CtxOk prog (law09_RewriteTells.C n) := ⟨types, ftsOk_, (fns_cons (rewrite_Before.sound n) (fns_cons (ref09_Before.sound n) (fns_cons (rewrite_Apply.sound n) (fns_cons (ref09_Apply.sound n) (fns_cons (rewrite_Then.sound n) (fns_cons (ref09_Then.sound n) (fns_cons (rewrite_After.sound n) (fns_cons (ref09_After.sound n) (fns_cons (rewrite_Clean.sound n) (fns_cons (ref09_Clean.sound n) (fns_cons (rewrite_None.sound n) (fns_cons (ref09_None.sound n) (fns_cons (law09_awake.sound n) fns_nil))))))))))))), cls_nil, mixed⟩
theorem law09_RewriteTells.eq (n : Nat) (x : pdens law09_RewriteTells.ps) : Vi.run (law09_RewriteTells.C n) n f6 law09_RewriteTells.ps law09_RewriteTells.rs x = law09_RewriteTells n x.1 x.2.1 x.2.2.1 x.2.2.2 := by kernel_rfl
theorem law09_RewriteTells.sound (n : Nat) : SoundE prog 6 (law09_RewriteTells.e n) :=
  soundE_of_run (C := law09_RewriteTells.C n) (n := n) (law09_RewriteTells.ok n) func6 (by kernel_rfl) (by kernel_rfl) (fun x r h => (law09_RewriteTells.eq n x).trans h)
def law09_RewriteTells.g (n : Nat) (x : pdens (law09_RewriteTells.τs.map PTy.data)) : Option Bool := law09_RewriteTells n x.1 x.2.1 x.2.2.1 x.2.2.2
theorem law09_RewriteTells.soundN (n : Nat) : SoundE prog 6 ⟨law09_RewriteTells.τs.map PTy.data, [.data .bool], law09_RewriteTells.g n⟩ := law09_RewriteTells.sound n

def ref03_Right.rs : List RTy := [.data .bool]
def ref03_Right.ps : List PTy := [.data (.int .i64)]
noncomputable def ref03_Right.e (n : Nat) : Ent := ⟨ref03_Right.ps, ref03_Right.rs, fun x => some (ref03_Right x)⟩
noncomputable def ref03_Right.C (n : Nat) : Ctx := { tab := tab, fts := fts, Γ := lookO [], Γc := lookO [], ntmps := f71.ntmps, keep := Vi.look ([], []) [] }
theorem ref03_Right.ok (n : Nat) : CtxOk prog (ref03_Right.C n) := ⟨types, ftsOk_, fns_nil, cls_nil, mixed⟩
theorem ref03_Right.run0 (n : Nat) (x : pdens ref03_Right.ps) : Vi.run (ref03_Right.C n) n f71 ref03_Right.ps ref03_Right.rs x = ref03_Right.o x := by kernel_rfl
theorem ref03_Right.eq (n : Nat) (x : pdens ref03_Right.ps) : Vi.run (ref03_Right.C n) n f71 ref03_Right.ps ref03_Right.rs x = some (ref03_Right x) := (ref03_Right.run0 n x).trans (ref03_Right.o_eq _)
theorem ref03_Right.sound (n : Nat) : SoundE prog 71 (ref03_Right.e n) :=
  soundE_of_run (C := ref03_Right.C n) (n := n) (ref03_Right.ok n) func71 (by kernel_rfl) (by kernel_rfl) (fun x r h => (ref03_Right.eq n x).trans h)

def ref09_Set.rs : List RTy := [.data TRewrite]
def ref09_Set.ps : List PTy := [.data TRewrite, .data (.int .i64), .data TWide, .data TWide]
noncomputable def ref09_Set.e (n : Nat) : Ent := ⟨ref09_Set.ps, ref09_Set.rs, fun x => ref09_Set n x.1 x.2.1 x.2.2.1 x.2.2.2⟩
noncomputable def ref09_Set.C (n : Nat) : Ctx := { tab := tab, fts := fts, Γ := lookO [(29, ref09_Then.e n), (71, ref03_Right.e n)], Γc := lookO [], ntmps := f38.ntmps, keep := Vi.look ([], []) [] }
theorem ref09_Set.ok (n : Nat) : CtxOk prog (ref09_Set.C n) := ⟨types, ftsOk_, (fns_cons (ref09_Then.sound n) (fns_cons (ref03_Right.sound n) fns_nil)), cls_nil, mixed⟩
theorem ref09_Set.eq (n : Nat) (x : pdens ref09_Set.ps) : Vi.run (ref09_Set.C n) n f38 ref09_Set.ps ref09_Set.rs x = ref09_Set n x.1 x.2.1 x.2.2.1 x.2.2.2 := by kernel_rfl
theorem ref09_Set.sound (n : Nat) : SoundE prog 38 (ref09_Set.e n) :=
  soundE_of_run (C := ref09_Set.C n) (n := n) (ref09_Set.ok n) func38 (by kernel_rfl) (by kernel_rfl) (fun x r h => (ref09_Set.eq n x).trans h)

def law09_RewriteSets.rs : List RTy := [.data .bool]
def law09_RewriteSets.ps : List PTy := [.data TRewrite, .data (.int .i64), .data TWide, .data TWide]
noncomputable def law09_RewriteSets.e (n : Nat) : Ent := ⟨law09_RewriteSets.ps, law09_RewriteSets.rs, fun x => law09_RewriteSets n x.1 x.2.1 x.2.2.1 x.2.2.2⟩
noncomputable def law09_RewriteSets.C (n : Nat) : Ctx := { tab := tab, fts := fts, Γ := lookO [(36, law09_awake.e n), (37, rewrite_Set.e n), (38, ref09_Set.e n)], Γc := lookO [], ntmps := f7.ntmps, keep := Vi.look ([], []) [] }
theorem law09_RewriteSets.ok (n : Nat) : CtxOk prog (law09_RewriteSets.C n) := ⟨types, ftsOk_, (fns_cons (law09_awake.sound n) (fns_cons (rewrite_Set.sound n) (fns_cons (ref09_Set.sound n) fns_nil))), cls_nil, mixed⟩
theorem law09_RewriteSets.eq (n : Nat) (x : pdens law09_RewriteSets.ps) : Vi.run (law09_RewriteSets.C n) n f7 law09_RewriteSets.ps law09_RewriteSets.rs x = law09_RewriteSets n x.1 x.2.1 x.2.2.1 x.2.2.2 := by kernel_rfl
theorem law09_RewriteSets.sound (n : Nat) : SoundE prog 7 (law09_RewriteSets.e n) :=
  soundE_of_run (C := law09_RewriteSets.C n) (n := n) (law09_RewriteSets.ok n) func7 (by kernel_rfl) (by kernel_rfl) (fun x r h => (law09_RewriteSets.eq n x).trans h)
def law09_RewriteSets.g (n : Nat) (x : pdens (law09_RewriteSets.τs.map PTy.data)) : Option Bool := law09_RewriteSets n x.1 x.2.1 x.2.2.1 x.2.2.2
theorem law09_RewriteSets.soundN (n : Nat) : SoundE prog 7 ⟨law09_RewriteSets.τs.map PTy.data, [.data .bool], law09_RewriteSets.g n⟩ := law09_RewriteSets.sound n

def law09_RewriteThen.rs : List RTy := [.data .bool]
def law09_RewriteThen.ps : List PTy := [.data TRewrite, .data TRewrite, .data TRewrite, .data THeader]
noncomputable def law09_RewriteThen.e (n : Nat) : Ent := ⟨law09_RewriteThen.ps, law09_RewriteThen.rs, fun x => law09_RewriteThen n x.1 x.2.1 x.2.2.1 x.2.2.2⟩
noncomputable def law09_RewriteThen.C (n : Nat) : Ctx := { tab := tab, fts := fts, Γ := lookO [(26, rewrite_Apply.e n), (28, rewrite_Then.e n), (36, law09_awake.e n)], Γc := lookO [], ntmps := f8.ntmps, keep := Vi.look ([], []) [] }
theorem law09_RewriteThen.ok (n : Nat) : CtxOk prog (law09_RewriteThen.C n) := ⟨types, ftsOk_, (fns_cons (rewrite_Apply.sound n) (fns_cons (rewrite_Then.sound n) (fns_cons (law09_awake.sound n) fns_nil))), cls_nil, mixed⟩
theorem law09_RewriteThen.eq (n : Nat) (x : pdens law09_RewriteThen.ps) : Vi.run (law09_RewriteThen.C n) n f8 law09_RewriteThen.ps law09_RewriteThen.rs x = law09_RewriteThen n x.1 x.2.1 x.2.2.1 x.2.2.2 := by kernel_rfl
theorem law09_RewriteThen.sound (n : Nat) : SoundE prog 8 (law09_RewriteThen.e n) :=
  soundE_of_run (C := law09_RewriteThen.C n) (n := n) (law09_RewriteThen.ok n) func8 (by kernel_rfl) (by kernel_rfl) (fun x r h => (law09_RewriteThen.eq n x).trans h)
def law09_RewriteThen.g (n : Nat) (x : pdens (law09_RewriteThen.τs.map PTy.data)) : Option Bool := law09_RewriteThen n x.1 x.2.1 x.2.2.1 x.2.2.2
theorem law09_RewriteThen.soundN (n : Nat) : SoundE prog 8 ⟨law09_RewriteThen.τs.map PTy.data, [.data .bool], law09_RewriteThen.g n⟩ := law09_RewriteThen.sound n

def cube_Has.rs : List RTy := [.data .bool]
def cube_Has.ps : List PTy := [.data TRewrite, .data THeader]
noncomputable def cube_Has.e (n : Nat) : Ent := ⟨cube_Has.ps, cube_Has.rs, fun x => cube_Has n x.1 x.2⟩
noncomputable def cube_Has.C (n : Nat) : Ctx := { tab := tab, fts := fts, Γ := lookO [(74, tern_Has.e n)], Γc := lookO [], ntmps := f50.ntmps, keep := Vi.look ([], []) [(2, ([3, 7, 8], [3]))] }
theorem cube_Has.ok (n : Nat) : CtxOk prog (cube_Has.C n) := ⟨types, ftsOk_, (fns_cons (tern_Has.sound n) fns_nil), cls_nil, mixed⟩
noncomputable def cube_Has.code : Code := bodyOf f50
theorem cube_Has.l0.step (n m0 : Nat) (v7 : Rewrite) (v8 : Int) (h_1 : Header) : it (cube_Has.C n) n (Code.go cube_Has.code [1, 0, 1, 0, 0]) (blockK 0 (seqK (cube_Has.C n) n (Code.go cube_Has.code [1, 1]) (bodyK (cube_Has.C n) f50 cube_Has.rs))) (m0 + 1) ⟨[(3, .ptr 3 0 THeader []), (7, .dat TRewrite v7), (8, .dat (.int .i64) v8)], [(3, .box 0 false (.dat THeader h_1))]⟩ = cube_Has.s0 n (fun (v8' : Int) => it (cube_Has.C n) n (Code.go cube_Has.code [1, 0, 1, 0, 0]) (blockK 0 (seqK (cube_Has.C n) n (Code.go cube_Has.code [1, 1]) (bodyK (cube_Has.C n) f50 cube_Has.rs))) m0 ⟨[(3, .ptr 3 0 THeader []), (7, .dat TRewrite v7), (8, .dat (.int .i64) (v8'))], [(3, .box 0 false (.dat THeader h_1))]⟩) v7 v8 h_1 := by kernel_rfl
theorem cube_Has.l0.eq (n : Nat) (v7 : Rewrite) (h_1 : Header) : ∀ (m0 : Nat) (v8 : Int), it (cube_Has.C n) n (Code.go cube_Has.code [1, 0, 1, 0, 0]) (blockK 0 (seqK (cube_Has.C n) n (Code.go cube_Has.code [1, 1]) (bodyK (cube_Has.C n) f50 cube_Has.rs))) m0 ⟨[(3, .ptr 3 0 THeader []), (7, .dat TRewrite v7), (8, .dat (.int .i64) v8)], [(3, .box 0 false (.dat THeader h_1))]⟩ = cube_Has.l0 n v7 h_1 m0 v8
  | 0, _ => rfl
  | m0 + 1, v8 =>
    (cube_Has.l0.step n m0 v7 v8 h_1).trans (congrArg (fun k0 => cube_Has.s0 n k0 v7 v8 h_1) (funext fun v8' => cube_Has.l0.eq n v7 h_1 m0 v8'))
theorem cube_Has.run0 (n : Nat) (x : pdens cube_Has.ps) : Vi.run (cube_Has.C n) n f50 cube_Has.ps cube_Has.rs x = cube_Has.s n (fun (v7' : Rewrite) (v8' : Int) (h_1' : Header) => it (cube_Has.C n) n (Code.go cube_Has.code [1, 0, 1, 0, 0]) (blockK 0 (seqK (cube_Has.C n) n (Code.go cube_Has.code [1, 1]) (bodyK (cube_Has.C n) f50 cube_Has.rs))) n ⟨[(3, .ptr 3 0 THeader []), (7, .dat TRewrite (v7')), (8, .dat (.int .i64) (v8'))], [(3, .box 0 false (.dat THeader (h_1')))]⟩) x.1 x.2 := by kernel_rfl
theorem cube_Has.eq (n : Nat) (x : pdens cube_Has.ps) : Vi.run (cube_Has.C n) n f50 cube_Has.ps cube_Has.rs x = cube_Has n x.1 x.2 :=
  (cube_Has.run0 n x).trans (congrArg (fun k0 => cube_Has.s n k0 x.1 x.2) (funext fun v7' => funext fun v8' => funext fun h_1' => cube_Has.l0.eq n v7' h_1' n v8'))
theorem cube_Has.sound (n : Nat) : SoundE prog 50 (cube_Has.e n) :=
  soundE_of_run (C := cube_Has.C n) (n := n) (cube_Has.ok n) func50 (by kernel_rfl) (by kernel_rfl) (fun x r h => (cube_Has.eq n x).trans h)

def law09_RewriteBefore.rs : List RTy := [.data .bool]
def law09_RewriteBefore.ps : List PTy := [.data TRewrite, .data TRewrite, .data THeader]
noncomputable def law09_RewriteBefore.e (n : Nat) : Ent := ⟨law09_RewriteBefore.ps, law09_RewriteBefore.rs, fun x => law09_RewriteBefore n x.1 x.2.1 x.2.2⟩
noncomputable def law09_RewriteBefore.C (n : Nat) : Ctx := { tab := tab, fts := fts, Γ := lookO [(24, rewrite_Before.e n), (26, rewrite_Apply.e n), (36, law09_awake.e n), (50, cube_Has.e n)], Γc := lookO [], ntmps := f13.ntmps, keep := Vi.look ([], []) [] }
theorem law09_RewriteBefore.ok (n : Nat) : CtxOk prog (law09_RewriteBefore.C n) := ⟨types, ftsOk_, (fns_cons (rewrite_Before.sound n) (fns_cons (rewrite_Apply.sound n) (fns_cons (law09_awake.sound n) (fns_cons (cube_Has.sound n) fns_nil)))), cls_nil, mixed⟩
theorem law09_RewriteBefore.eq (n : Nat) (x : pdens law09_RewriteBefore.ps) : Vi.run (law09_RewriteBefore.C n) n f13 law09_RewriteBefore.ps law09_RewriteBefore.rs x = law09_RewriteBefore n x.1 x.2.1 x.2.2 := by kernel_rfl
theorem law09_RewriteBefore.sound (n : Nat) : SoundE prog 13 (law09_RewriteBefore.e n) :=
  soundE_of_run (C := law09_RewriteBefore.C n) (n := n) (law09_RewriteBefore.ok n) func13 (by kernel_rfl) (by kernel_rfl) (fun x r h => (law09_RewriteBefore.eq n x).trans h)
def law09_RewriteBefore.g (n : Nat) (x : pdens (law09_RewriteBefore.τs.map PTy.data)) : Option Bool := law09_RewriteBefore n x.1 x.2.1 x.2.2
theorem law09_RewriteBefore.soundN (n : Nat) : SoundE prog 13 ⟨law09_RewriteBefore.τs.map PTy.data, [.data .bool], law09_RewriteBefore.g n⟩ := law09_RewriteBefore.sound n

def law09_RewriteAfter.rs : List RTy := [.data .bool]
def law09_RewriteAfter.ps : List PTy := [.data TRewrite, .data TRewrite, .data THeader]
noncomputable def law09_RewriteAfter.e (n : Nat) : Ent := ⟨law09_RewriteAfter.ps, law09_RewriteAfter.rs, fun x => law09_RewriteAfter n x.1 x.2.1 x.2.2⟩
noncomputable def law09_RewriteAfter.C (n : Nat) : Ctx := { tab := tab, fts := fts, Γ := lookO [(26, rewrite_Apply.e n), (30, rewrite_After.e n), (36, law09_awake.e n), (50, cube_Has.e n)], Γc := lookO [], ntmps := f14.ntmps, keep := Vi.look ([], []) [] }
theorem law09_RewriteAfter.ok (n : Nat) : CtxOk prog (law09_RewriteAfter.C n) := ⟨types, ftsOk_, (fns_cons (rewrite_Apply.sound n) (fns_cons (rewrite_After.sound n) (fns_cons (law09_awake.sound n) (fns_cons (cube_Has.sound n) fns_nil)))), cls_nil, mixed⟩
theorem law09_RewriteAfter.eq (n : Nat) (x : pdens law09_RewriteAfter.ps) : Vi.run (law09_RewriteAfter.C n) n f14 law09_RewriteAfter.ps law09_RewriteAfter.rs x = law09_RewriteAfter n x.1 x.2.1 x.2.2 := by kernel_rfl
theorem law09_RewriteAfter.sound (n : Nat) : SoundE prog 14 (law09_RewriteAfter.e n) :=
  soundE_of_run (C := law09_RewriteAfter.C n) (n := n) (law09_RewriteAfter.ok n) func14 (by kernel_rfl) (by kernel_rfl) (fun x r h => (law09_RewriteAfter.eq n x).trans h)
def law09_RewriteAfter.g (n : Nat) (x : pdens (law09_RewriteAfter.τs.map PTy.data)) : Option Bool := law09_RewriteAfter n x.1 x.2.1 x.2.2
theorem law09_RewriteAfter.soundN (n : Nat) : SoundE prog 14 ⟨law09_RewriteAfter.τs.map PTy.data, [.data .bool], law09_RewriteAfter.g n⟩ := law09_RewriteAfter.sound n

def slices_Index_int.rs : List RTy := [.data (.int .i64)]
def slices_Index_int.ps : List PTy := [.data (.slc (.int .i64)), .data (.int .i64)]
noncomputable def slices_Index_int.e (n : Nat) : Ent := ⟨slices_Index_int.ps, slices_Index_int.rs, fun x => slices_Index_int n x.1 x.2⟩
noncomputable def slices_Index_int.C (n : Nat) : Ctx := { tab := tab, fts := fts, Γ := lookO [], Γc := lookO [], ntmps := f73.ntmps, keep := Vi.look ([], []) [(2, ([0, 1, 7, 8], []))] }
theorem slices_Index_int.ok (n : Nat) : CtxOk prog (slices_Index_int.C n) := ⟨types, ftsOk_, fns_nil, cls_nil, mixed⟩
noncomputable def slices_Index_int.code : Code := bodyOf f73
theorem slices_Index_int.l0.step (n m0 : Nat) (s_1 : (List Int)) (v_1 : Int) (v7 : Int) (v8 : Int) : it (slices_Index_int.C n) n (Code.go slices_Index_int.code [1, 0, 1, 0, 0]) (blockK 0 (seqK (slices_Index_int.C n) n (Code.go slices_Index_int.code [1, 1]) (bodyK (slices_Index_int.C n) f73 slices_Index_int.rs))) (m0 + 1) ⟨[(0, .dat (.slc (.int .i64)) s_1), (1, .dat (.int .i64) v_1), (7, .dat (.int .i64) v7), (8, .dat (.int .i64) v8)], []⟩ = slices_Index_int.s0 n (fun (v8' : Int) => it (slices_Index_int.C n) n (Code.go slices_Index_int.code [1, 0, 1, 0, 0]) (blockK 0 (seqK (slices_Index_int.C n) n (Code.go slices_Index_int.code [1, 1]) (bodyK (slices_Index_int.C n) f73 slices_Index_int.rs))) m0 ⟨[(0, .dat (.slc (.int .i64)) s_1), (1, .dat (.int .i64) v_1), (7, .dat (.int .i64) v7), (8, .dat (.int .i64) (v8'))], []⟩) s_1 v_1 v7 v8 := by kernel_rfl
theorem slices_Index_int.l0.eq (n : Nat) (s_1 : (List Int)) (v_1 : Int) (v7 : Int) : ∀ (m0 : Nat) (v8 : Int), it (slices_Index_int.C n) n (Code.go slices_Index_int.code [1, 0, 1, 0, 0]) (blockK 0 (seqK (slices_Index_int.C n) n (Code.go slices_Index_int.code [1, 1]) (bodyK (slices_Index_int.C n) f73 slices_Index_int.rs))) m0 ⟨[(0, .dat (.slc (.int .i64)) s_1), (1, .dat (.int .i64) v_1), (7, .dat (.int .i64) v7), (8, .dat (.int .i64) v8)], []⟩ = slices_Index_int.l0 n s_1 v_1 v7 m0 v8
  | 0, _ => rfl
  | m0 + 1, v8 =>
    (slices_Index_int.l0.step n m0 s_1 v_1 v7 v8).trans (congrArg (fun k0 => slices_Index_int.s0 n k0 s_1 v_1 v7 v8) (funext fun v8' => slices_Index_int.l0.eq n s_1 v_1 v7 m0 v8'))
theorem slices_Index_int.run0 (n : Nat) (x : pdens slices_Index_int.ps) : Vi.run (slices_Index_int.C n) n f73 slices_Index_int.ps slices_Index_int.rs x = slices_Index_int.s n (fun (s_1' : (List Int)) (v_1' : Int) (v7' : Int) (v8' : Int) => it (slices_Index_int.C n) n (Code.go slices_Index_int.code [1, 0, 1, 0, 0]) (blockK 0 (seqK (slices_Index_int.C n) n (Code.go slices_Index_int.code [1, 1]) (bodyK (slices_Index_int.C n) f73 slices_Index_int.rs))) n ⟨[(0, .dat (.slc (.int .i64)) (s_1')), (1, .dat (.int .i64) (v_1')), (7, .dat (.int .i64) (v7')), (8, .dat (.int .i64) (v8'))], []⟩) x.1 x.2 := by kernel_rfl
theorem slices_Index_int.eq (n : Nat) (x : pdens slices_Index_int.ps) : Vi.run (slices_Index_int.C n) n f73 slices_Index_int.ps slices_Index_int.rs x = slices_Index_int n x.1 x.2 :=
  (slices_Index_int.run0 n x).trans (congrArg (fun k0 => slices_Index_int.s n k0 x.1 x.2) (funext fun s_1' => funext fun v_1' => funext fun v7' => funext fun v8' => slices_Index_int.l0.eq n s_1' v_1' v7' n v8'))
theorem slices_Index_int.sound (n : Nat) : SoundE prog 73 (slices_Index_int.e n) :=
  soundE_of_run (C := slices_Index_int.C n) (n := n) (slices_Index_int.ok n) func73 (by kernel_rfl) (by kernel_rfl) (fun x r h => (slices_Index_int.eq n x).trans h)

def slices_Contains_int.rs : List RTy := [.data .bool]
def slices_Contains_int.ps : List PTy := [.data (.slc (.int .i64)), .data (.int .i64)]
noncomputable def slices_Contains_int.e (n : Nat) : Ent := ⟨slices_Contains_int.ps, slices_Contains_int.rs, fun x => slices_Contains_int n x.1 x.2⟩
noncomputable def slices_Contains_int.C (n : Nat) : Ctx := { tab := tab, fts := fts, Γ := lookO [(73, slices_Index_int.e n)], Γc := lookO [], ntmps := f49.ntmps, keep := Vi.look ([], []) [] }
theorem slices_Contains_int.ok (n : Nat) : CtxOk prog (slices_Contains_int.C n) := ⟨types, ftsOk_, (fns_cons (slices_Index_int.sound n) fns_nil), cls_nil, mixed⟩
theorem slices_Contains_int.eq (n : Nat) (x : pdens slices_Contains_int.ps) : Vi.run (slices_Contains_int.C n) n f49 slices_Contains_int.ps slices_Contains_int.rs x = slices_Contains_int n x.1 x.2 := by kernel_rfl
theorem slices_Contains_int.sound (n : Nat) : SoundE prog 49 (slices_Contains_int.e n) :=
  soundE_of_run (C := slices_Contains_int.C n) (n := n) (slices_Contains_int.ok n) func49 (by kernel_rfl) (by kernel_rfl) (fun x r h => (slices_Contains_int.eq n x).trans h)

def env_Up.rs : List RTy := [.data .bool]
def env_Up.ps : List PTy := [.data TEnv, .data (.int .i64)]
noncomputable def env_Up.e (n : Nat) : Ent := ⟨env_Up.ps, env_Up.rs, fun x => env_Up n x.1 x.2⟩
noncomputable def env_Up.C (n : Nat) : Ctx := { tab := tab, fts := fts, Γ := lookO [(49, slices_Contains_int.e n)], Γc := lookO [], ntmps := f40.ntmps, keep := Vi.look ([], []) [] }
theorem env_Up.ok (n : Nat) : CtxOk prog (env_Up.C n) := ⟨types, ftsOk_, (fns_cons (slices_Contains_int.sound n) fns_nil), cls_nil, mixed⟩
theorem env_Up.eq (n : Nat) (x : pdens env_Up.ps) : Vi.run (env_Up.C n) n f40 env_Up.ps env_Up.rs x = env_Up n x.1 x.2 := by kernel_rfl
theorem env_Up.sound (n : Nat) : SoundE prog 40 (env_Up.e n) :=
  soundE_of_run (C := env_Up.C n) (n := n) (env_Up.ok n) func40 (by kernel_rfl) (by kernel_rfl) (fun x r h => (env_Up.eq n x).trans h)

def env_Which.rs : List RTy := [.data (.int .i64)]
def env_Which.ps : List PTy := [.data TEnv, .data (.int .i64)]
noncomputable def env_Which.e (n : Nat) : Ent := ⟨env_Which.ps, env_Which.rs, fun x => env_Which x.1 x.2⟩
noncomputable def env_Which.C (n : Nat) : Ctx := { tab := tab, fts := fts, Γ := lookO [], Γc := lookO [], ntmps := f42.ntmps, keep := Vi.look ([], []) [] }
theorem env_Which.ok (n : Nat) : CtxOk prog (env_Which.C n) := ⟨types, ftsOk_, fns_nil, cls_nil, mixed⟩
theorem env_Which.eq (n : Nat) (x : pdens env_Which.ps) : Vi.run (env_Which.C n) n f42 env_Which.ps env_Which.rs x = env_Which x.1 x.2 := by kernel_rfl
theorem env_Which.sound (n : Nat) : SoundE prog 42 (env_Which.e n) :=
  soundE_of_run (C := env_Which.C n) (n := n) (env_Which.ok n) func42 (by kernel_rfl) (by kernel_rfl) (fun x r h => (env_Which.eq n x).trans h)

def env_world_up_1.rs : List Ty := [.bool]
def env_world_up_1.ps : List Ty := [TBucket]
def env_world_up_1.caps : List PTy := [.cptr TWorld]
noncomputable def env_world_up_1.e (n : Nat) : Cl := ⟨env_world_up_1.ps, env_world_up_1.caps, env_world_up_1.rs, fun x c => env_world_up_1 n x c⟩
noncomputable def env_world_up_1.C (n : Nat) : Ctx := { tab := tab, fts := fts, Γ := lookO [(40, env_Up.e n)], Γc := lookO [], ntmps := f77.ntmps, keep := Vi.look ([], []) [] }
theorem env_world_up_1.ok (n : Nat) : CtxOk prog (env_world_up_1.C n) := ⟨types, ftsOk_, (fns_cons (env_Up.sound n) fns_nil), cls_nil, mixed⟩
theorem env_world_up_1.eq (n : Nat) (x : dens env_world_up_1.ps) (c : pdens env_world_up_1.caps) : Vi.runC (env_world_up_1.C n) n f77 env_world_up_1.ps env_world_up_1.caps env_world_up_1.rs x c = env_world_up_1 n x c := by kernel_rfl
theorem env_world_up_1.sound (n : Nat) : SoundC prog 77 (env_world_up_1.e n) :=
  soundC_of_run (C := env_world_up_1.C n) (n := n) (env_world_up_1.ok n) func77 (by kernel_rfl) (by kernel_rfl) (fun x c r h => (env_world_up_1.eq n x c).trans h)

def slices_IndexFunc_Bucket.rs : List RTy := [.data (.int .i64)]
def slices_IndexFunc_Bucket.ps : List PTy := [.data (.slc TBucket), .fnp [TBucket] [.bool]]
noncomputable def slices_IndexFunc_Bucket.e (n : Nat) : Ent := ⟨slices_IndexFunc_Bucket.ps, slices_IndexFunc_Bucket.rs, fun x => slices_IndexFunc_Bucket n x.1 x.2⟩
noncomputable def slices_IndexFunc_Bucket.C (n : Nat) : Ctx := { tab := tab, fts := fts, Γ := lookO [], Γc := lookO [], ntmps := f47.ntmps, keep := Vi.look ([], []) [(2, ([0, 1, 7, 8], []))] }
theorem slices_IndexFunc_Bucket.ok (n : Nat) : CtxOk prog (slices_IndexFunc_Bucket.C n) := ⟨types, ftsOk_, fns_nil, cls_nil, mixed⟩
noncomputable def slices_IndexFunc_Bucket.code : Code := bodyOf f47
theorem slices_IndexFunc_Bucket.l0.step (n m0 : Nat) (s_1 : (List Bucket)) (f_1 : (Bucket → Option Bool)) (v7 : Int) (v8 : Int) : it (slices_IndexFunc_Bucket.C n) n (Code.go slices_IndexFunc_Bucket.code [1, 0, 1, 0, 0]) (blockK 0 (seqK (slices_IndexFunc_Bucket.C n) n (Code.go slices_IndexFunc_Bucket.code [1, 1]) (bodyK (slices_IndexFunc_Bucket.C n) f47 slices_IndexFunc_Bucket.rs))) (m0 + 1) ⟨[(0, .dat (.slc TBucket) s_1), (1, .fn [TBucket] [.bool] f_1), (7, .dat (.int .i64) v7), (8, .dat (.int .i64) v8)], []⟩ = slices_IndexFunc_Bucket.s0 n (fun (v8' : Int) => it (slices_IndexFunc_Bucket.C n) n (Code.go slices_IndexFunc_Bucket.code [1, 0, 1, 0, 0]) (blockK 0 (seqK (slices_IndexFunc_Bucket.C n) n (Code.go slices_IndexFunc_Bucket.code [1, 1]) (bodyK (slices_IndexFunc_Bucket.C n) f47 slices_IndexFunc_Bucket.rs))) m0 ⟨[(0, .dat (.slc TBucket) s_1), (1, .fn [TBucket] [.bool] f_1), (7, .dat (.int .i64) v7), (8, .dat (.int .i64) (v8'))], []⟩) s_1 f_1 v7 v8 := by kernel_rfl
theorem slices_IndexFunc_Bucket.l0.eq (n : Nat) (s_1 : (List Bucket)) (f_1 : (Bucket → Option Bool)) (v7 : Int) : ∀ (m0 : Nat) (v8 : Int), it (slices_IndexFunc_Bucket.C n) n (Code.go slices_IndexFunc_Bucket.code [1, 0, 1, 0, 0]) (blockK 0 (seqK (slices_IndexFunc_Bucket.C n) n (Code.go slices_IndexFunc_Bucket.code [1, 1]) (bodyK (slices_IndexFunc_Bucket.C n) f47 slices_IndexFunc_Bucket.rs))) m0 ⟨[(0, .dat (.slc TBucket) s_1), (1, .fn [TBucket] [.bool] f_1), (7, .dat (.int .i64) v7), (8, .dat (.int .i64) v8)], []⟩ = slices_IndexFunc_Bucket.l0 n s_1 f_1 v7 m0 v8
  | 0, _ => rfl
  | m0 + 1, v8 =>
    (slices_IndexFunc_Bucket.l0.step n m0 s_1 f_1 v7 v8).trans (congrArg (fun k0 => slices_IndexFunc_Bucket.s0 n k0 s_1 f_1 v7 v8) (funext fun v8' => slices_IndexFunc_Bucket.l0.eq n s_1 f_1 v7 m0 v8'))
theorem slices_IndexFunc_Bucket.run0 (n : Nat) (x : pdens slices_IndexFunc_Bucket.ps) : Vi.run (slices_IndexFunc_Bucket.C n) n f47 slices_IndexFunc_Bucket.ps slices_IndexFunc_Bucket.rs x = slices_IndexFunc_Bucket.s n (fun (s_1' : (List Bucket)) (f_1' : (Bucket → Option Bool)) (v7' : Int) (v8' : Int) => it (slices_IndexFunc_Bucket.C n) n (Code.go slices_IndexFunc_Bucket.code [1, 0, 1, 0, 0]) (blockK 0 (seqK (slices_IndexFunc_Bucket.C n) n (Code.go slices_IndexFunc_Bucket.code [1, 1]) (bodyK (slices_IndexFunc_Bucket.C n) f47 slices_IndexFunc_Bucket.rs))) n ⟨[(0, .dat (.slc TBucket) (s_1')), (1, .fn [TBucket] [.bool] (f_1')), (7, .dat (.int .i64) (v7')), (8, .dat (.int .i64) (v8'))], []⟩) x.1 x.2 := by kernel_rfl
theorem slices_IndexFunc_Bucket.eq (n : Nat) (x : pdens slices_IndexFunc_Bucket.ps) : Vi.run (slices_IndexFunc_Bucket.C n) n f47 slices_IndexFunc_Bucket.ps slices_IndexFunc_Bucket.rs x = slices_IndexFunc_Bucket n x.1 x.2 :=
  (slices_IndexFunc_Bucket.run0 n x).trans (congrArg (fun k0 => slices_IndexFunc_Bucket.s n k0 x.1 x.2) (funext fun s_1' => funext fun f_1' => funext fun v7' => funext fun v8' => slices_IndexFunc_Bucket.l0.eq n s_1' f_1' v7' n v8'))
theorem slices_IndexFunc_Bucket.sound (n : Nat) : SoundE prog 47 (slices_IndexFunc_Bucket.e n) :=
  soundE_of_run (C := slices_IndexFunc_Bucket.C n) (n := n) (slices_IndexFunc_Bucket.ok n) func47 (by kernel_rfl) (by kernel_rfl) (fun x r h => (slices_IndexFunc_Bucket.eq n x).trans h)

def env_world_up.rs : List RTy := [.data (.int .i64)]
def env_world_up.ps : List PTy := [.data TWorld]
noncomputable def env_world_up.e (n : Nat) : Ent := ⟨env_world_up.ps, env_world_up.rs, fun x => env_world_up n x⟩
noncomputable def env_world_up.C (n : Nat) : Ctx := { tab := tab, fts := fts, Γ := lookO [(47, slices_IndexFunc_Bucket.e n)], Γc := lookO [(77, env_world_up_1.e n)], ntmps := f72.ntmps, keep := Vi.look ([], []) [] }
theorem env_world_up.ok (n : Nat) : CtxOk prog (env_world_up.C n) := ⟨types, ftsOk_, (fns_cons (slices_IndexFunc_Bucket.sound n) fns_nil), (cls_cons (env_world_up_1.sound n) cls_nil), mixed⟩
theorem env_world_up.eq (n : Nat) (x : pdens env_world_up.ps) : Vi.run (env_world_up.C n) n f72 env_world_up.ps env_world_up.rs x = env_world_up n x := by kernel_rfl
theorem env_world_up.sound (n : Nat) : SoundE prog 72 (env_world_up.e n) :=
  soundE_of_run (C := env_world_up.C n) (n := n) (env_world_up.ok n) func72 (by kernel_rfl) (by kernel_rfl) (fun x r h => (env_world_up.eq n x).trans h)

def env_Takes.rs : List RTy := [.fresh (.int .i64)]
def env_Takes.ps : List PTy := [.data TEnv, .data TGroup]
noncomputable def env_Takes.e (n : Nat) : Ent := ⟨env_Takes.ps, env_Takes.rs, fun x => env_Takes n x.1 x.2⟩
noncomputable def env_Takes.C (n : Nat) : Ctx := { tab := tab, fts := fts, Γ := lookO [(42, env_Which.e n), (72, env_world_up.e n)], Γc := lookO [], ntmps := f45.ntmps, keep := Vi.look ([], []) [(8, ([6, 25, 26], []))] }
theorem env_Takes.ok (n : Nat) : CtxOk prog (env_Takes.C n) := ⟨types, ftsOk_, (fns_cons (env_Which.sound n) (fns_cons (env_world_up.sound n) fns_nil)), cls_nil, mixed⟩
noncomputable def env_Takes.code : Code := bodyOf f45
theorem env_Takes.l0.step (n m0 : Nat) (out : (List Int)) (v25 : Int) (v26 : Int) : it (env_Takes.C n) n (Code.go env_Takes.code [1, 1, 1, 0, 1, 0, 1, 0, 1, 0, 1, 0, 0]) (blockK 1 (seqK (env_Takes.C n) n (Code.go env_Takes.code [1, 1, 1, 0, 1, 0, 1, 0, 1, 1]) (blockK 0 (seqK (env_Takes.C n) n (Code.go env_Takes.code [1, 1, 1, 1]) (bodyK (env_Takes.C n) f45 env_Takes.rs))))) (m0 + 1) ⟨[(6, .lst (.tip 100006 0) (.int .i64) out), (25, .dat (.int .i64) v25), (26, .dat (.int .i64) v26)], [(100006, .tok 0)]⟩ = env_Takes.s0 n (fun (out' : (List Int)) (v26' : Int) => it (env_Takes.C n) n (Code.go env_Takes.code [1, 1, 1, 0, 1, 0, 1, 0, 1, 0, 1, 0, 0]) (blockK 1 (seqK (env_Takes.C n) n (Code.go env_Takes.code [1, 1, 1, 0, 1, 0, 1, 0, 1, 1]) (blockK 0 (seqK (env_Takes.C n) n (Code.go env_Takes.code [1, 1, 1, 1]) (bodyK (env_Takes.C n) f45 env_Takes.rs))))) m0 ⟨[(6, .lst (.tip 100006 0) (.int .i64) (out')), (25, .dat (.int .i64) v25), (26, .dat (.int .i64) (v26'))], [(100006, .tok 0)]⟩) out v25 v26 := by kernel_rfl
theorem env_Takes.l0.eq (n : Nat) (v25 : Int) : ∀ (m0 : Nat) (out : (List Int)) (v26 : Int), it (env_Takes.C n) n (Code.go env_Takes.code [1, 1, 1, 0, 1, 0, 1, 0, 1, 0, 1, 0, 0]) (blockK 1 (seqK (env_Takes.C n) n (Code.go env_Takes.code [1, 1, 1, 0, 1, 0, 1, 0, 1, 1]) (blockK 0 (seqK (env_Takes.C n) n (Code.go env_Takes.code [1, 1, 1, 1]) (bodyK (env_Takes.C n) f45 env_Takes.rs))))) m0 ⟨[(6, .lst (.tip 100006 0) (.int .i64) out), (25, .dat (.int .i64) v25), (26, .dat (.int .i64) v26)], [(100006, .tok 0)]⟩ = env_Takes.l0 n v25 m0 out v26
  | 0, _, _ => rfl
  | m0 + 1, out, v26 =>
    (env_Takes.l0.step n m0 out v25 v26).trans (congrArg (fun k0 => env_Takes.s0 n k0 out v25 v26) (funext fun out' => funext fun v26' => env_Takes.l0.eq n v25 m0 out' v26'))
theorem env_Takes.run0 (n : Nat) (x : pdens env_Takes.ps) : Vi.run (env_Takes.C n) n f45 env_Takes.ps env_Takes.rs x = env_Takes.s n (fun (out' : (List Int)) (v25' : Int) (v26' : Int) => it (env_Takes.C n) n (Code.go env_Takes.code [1, 1, 1, 0, 1, 0, 1, 0, 1, 0, 1, 0, 0]) (blockK 1 (seqK (env_Takes.C n) n (Code.go env_Takes.code [1, 1, 1, 0, 1, 0, 1, 0, 1, 1]) (blockK 0 (seqK (env_Takes.C n) n (Code.go env_Takes.code [1, 1, 1, 1]) (bodyK (env_Takes.C n) f45 env_Takes.rs))))) n ⟨[(6, .lst (.tip 100006 0) (.int .i64) (out')), (25, .dat (.int .i64) (v25')), (26, .dat (.int .i64) (v26'))], [(100006, .tok 0)]⟩) x.1 x.2 := by kernel_rfl
theorem env_Takes.eq (n : Nat) (x : pdens env_Takes.ps) : Vi.run (env_Takes.C n) n f45 env_Takes.ps env_Takes.rs x = env_Takes n x.1 x.2 :=
  (env_Takes.run0 n x).trans (congrArg (fun k0 => env_Takes.s n k0 x.1 x.2) (funext fun out' => funext fun v25' => funext fun v26' => env_Takes.l0.eq n v25' n out' v26'))
theorem env_Takes.sound (n : Nat) : SoundE prog 45 (env_Takes.e n) :=
  soundE_of_run (C := env_Takes.C n) (n := n) (env_Takes.ok n) func45 (by kernel_rfl) (by kernel_rfl) (fun x r h => (env_Takes.eq n x).trans h)

def slices_Equal_int.rs : List RTy := [.data .bool]
def slices_Equal_int.ps : List PTy := [.data (.slc (.int .i64)), .data (.slc (.int .i64))]
noncomputable def slices_Equal_int.e (n : Nat) : Ent := ⟨slices_Equal_int.ps, slices_Equal_int.rs, fun x => slices_Equal_int n x.1 x.2⟩
noncomputable def slices_Equal_int.C (n : Nat) : Ctx := { tab := tab, fts := fts, Γ := lookO [], Γc := lookO [], ntmps := f44.ntmps, keep := Vi.look ([], []) [(4, ([0, 1, 12, 13], []))] }
theorem slices_Equal_int.ok (n : Nat) : CtxOk prog (slices_Equal_int.C n) := ⟨types, ftsOk_, fns_nil, cls_nil, mixed⟩
noncomputable def slices_Equal_int.code : Code := bodyOf f44
theorem slices_Equal_int.l0.step (n m0 : Nat) (s1_1 : (List Int)) (s2_1 : (List Int)) (v12 : Int) (v13 : Int) : it (slices_Equal_int.C n) n (Code.go slices_Equal_int.code [1, 1, 0, 1, 0, 0]) (blockK 0 (seqK (slices_Equal_int.C n) n (Code.go slices_Equal_int.code [1, 1, 1]) (bodyK (slices_Equal_int.C n) f44 slices_Equal_int.rs))) (m0 + 1) ⟨[(0, .dat (.slc (.int .i64)) s1_1), (1, .dat (.slc (.int .i64)) s2_1), (12, .dat (.int .i64) v12), (13, .dat (.int .i64) v13)], []⟩ = slices_Equal_int.s0 n (fun (v13' : Int) => it (slices_Equal_int.C n) n (Code.go slices_Equal_int.code [1, 1, 0, 1, 0, 0]) (blockK 0 (seqK (slices_Equal_int.C n) n (Code.go slices_Equal_int.code [1, 1, 1]) (bodyK (slices_Equal_int.C n) f44 slices_Equal_int.rs))) m0 ⟨[(0, .dat (.slc (.int .i64)) s1_1), (1, .dat (.slc (.int .i64)) s2_1), (12, .dat (.int .i64) v12), (13, .dat (.int .i64) (v13'))], []⟩) s1_1 s2_1 v12 v13 := by kernel_rfl
theorem slices_Equal_int.l0.eq (n : Nat) (s1_1 : (List Int)) (s2_1 : (List Int)) (v12 : Int) : ∀ (m0 : Nat) (v13 : Int), it (slices_Equal_int.C n) n (Code.go slices_Equal_int.code [1, 1, 0, 1, 0, 0]) (blockK 0 (seqK (slices_Equal_int.C n) n (Code.go slices_Equal_int.code [1, 1, 1]) (bodyK (slices_Equal_int.C n) f44 slices_Equal_int.rs))) m0 ⟨[(0, .dat (.slc (.int .i64)) s1_1), (1, .dat (.slc (.int .i64)) s2_1), (12, .dat (.int .i64) v12), (13, .dat (.int .i64) v13)], []⟩ = slices_Equal_int.l0 n s1_1 s2_1 v12 m0 v13
  | 0, _ => rfl
  | m0 + 1, v13 =>
    (slices_Equal_int.l0.step n m0 s1_1 s2_1 v12 v13).trans (congrArg (fun k0 => slices_Equal_int.s0 n k0 s1_1 s2_1 v12 v13) (funext fun v13' => slices_Equal_int.l0.eq n s1_1 s2_1 v12 m0 v13'))
theorem slices_Equal_int.run0 (n : Nat) (x : pdens slices_Equal_int.ps) : Vi.run (slices_Equal_int.C n) n f44 slices_Equal_int.ps slices_Equal_int.rs x = slices_Equal_int.s n (fun (s1_1' : (List Int)) (s2_1' : (List Int)) (v12' : Int) (v13' : Int) => it (slices_Equal_int.C n) n (Code.go slices_Equal_int.code [1, 1, 0, 1, 0, 0]) (blockK 0 (seqK (slices_Equal_int.C n) n (Code.go slices_Equal_int.code [1, 1, 1]) (bodyK (slices_Equal_int.C n) f44 slices_Equal_int.rs))) n ⟨[(0, .dat (.slc (.int .i64)) (s1_1')), (1, .dat (.slc (.int .i64)) (s2_1')), (12, .dat (.int .i64) (v12')), (13, .dat (.int .i64) (v13'))], []⟩) x.1 x.2 := by kernel_rfl
theorem slices_Equal_int.eq (n : Nat) (x : pdens slices_Equal_int.ps) : Vi.run (slices_Equal_int.C n) n f44 slices_Equal_int.ps slices_Equal_int.rs x = slices_Equal_int n x.1 x.2 :=
  (slices_Equal_int.run0 n x).trans (congrArg (fun k0 => slices_Equal_int.s n k0 x.1 x.2) (funext fun s1_1' => funext fun s2_1' => funext fun v12' => funext fun v13' => slices_Equal_int.l0.eq n s1_1' s2_1' v12' n v13'))
theorem slices_Equal_int.sound (n : Nat) : SoundE prog 44 (slices_Equal_int.e n) :=
  soundE_of_run (C := slices_Equal_int.C n) (n := n) (slices_Equal_int.ok n) func44 (by kernel_rfl) (by kernel_rfl) (fun x r h => (slices_Equal_int.eq n x).trans h)

def law29_awake.rs : List RTy := [.data .bool]
def law29_awake.ps : List PTy := []
noncomputable def law29_awake.e (n : Nat) : Ent := ⟨law29_awake.ps, law29_awake.rs, fun x => law29_awake n⟩
noncomputable def law29_awake.C (n : Nat) : Ctx := { tab := tab, fts := fts, Γ := lookO [(40, env_Up.e n), (42, env_Which.e n), (44, slices_Equal_int.e n), (45, env_Takes.e n)], Γc := lookO [], ntmps := f39.ntmps, keep := Vi.look ([], []) [] }
theorem law29_awake.ok (n : Nat) : CtxOk prog (law29_awake.C n) := ⟨types, ftsOk_, (fns_cons (env_Up.sound n) (fns_cons (env_Which.sound n) (fns_cons (slices_Equal_int.sound n) (fns_cons (env_Takes.sound n) fns_nil)))), cls_nil, mixed⟩
theorem law29_awake.eq (n : Nat) (x : pdens law29_awake.ps) : Vi.run (law29_awake.C n) n f39 law29_awake.ps law29_awake.rs x = law29_awake n := by kernel_rfl
theorem law29_awake.sound (n : Nat) : SoundE prog 39 (law29_awake.e n) :=
  soundE_of_run (C := law29_awake.C n) (n := n) (law29_awake.ok n) func39 (by kernel_rfl) (by kernel_rfl) (fun x r h => (law29_awake.eq n x).trans h)

def ref29_Up.rs : List RTy := [.data .bool]
def ref29_Up.ps : List PTy := [.data TEnv, .data (.int .i64)]
noncomputable def ref29_Up.e (n : Nat) : Ent := ⟨ref29_Up.ps, ref29_Up.rs, fun x => ref29_Up n x.1 x.2⟩
noncomputable def ref29_Up.C (n : Nat) : Ctx := { tab := tab, fts := fts, Γ := lookO [], Γc := lookO [], ntmps := f41.ntmps, keep := Vi.look ([], []) [(2, ([1, 2, 5], [2]))] }
theorem ref29_Up.ok (n : Nat) : CtxOk prog (ref29_Up.C n) := ⟨types, ftsOk_, fns_nil, cls_nil, mixed⟩
noncomputable def ref29_Up.code : Code := bodyOf f41
theorem ref29_Up.l0.step (n m0 : Nat) (port_1 : Int) (i : Int) (e_1 : Env) : it (ref29_Up.C n) n (Code.go ref29_Up.code [1, 0, 1, 0, 0]) (blockK 0 (seqK (ref29_Up.C n) n (Code.go ref29_Up.code [1, 1]) (bodyK (ref29_Up.C n) f41 ref29_Up.rs))) (m0 + 1) ⟨[(1, .dat (.int .i64) port_1), (2, .ptr 2 0 TEnv []), (5, .dat (.int .i64) i)], [(2, .box 0 false (.dat TEnv e_1))]⟩ = ref29_Up.s0 n (fun (i' : Int) => it (ref29_Up.C n) n (Code.go ref29_Up.code [1, 0, 1, 0, 0]) (blockK 0 (seqK (ref29_Up.C n) n (Code.go ref29_Up.code [1, 1]) (bodyK (ref29_Up.C n) f41 ref29_Up.rs))) m0 ⟨[(1, .dat (.int .i64) port_1), (2, .ptr 2 0 TEnv []), (5, .dat (.int .i64) (i'))], [(2, .box 0 false (.dat TEnv e_1))]⟩) port_1 i e_1 := by kernel_rfl
theorem ref29_Up.l0.eq (n : Nat) (port_1 : Int) (e_1 : Env) : ∀ (m0 : Nat) (i : Int), it (ref29_Up.C n) n (Code.go ref29_Up.code [1, 0, 1, 0, 0]) (blockK 0 (seqK (ref29_Up.C n) n (Code.go ref29_Up.code [1, 1]) (bodyK (ref29_Up.C n) f41 ref29_Up.rs))) m0 ⟨[(1, .dat (.int .i64) port_1), (2, .ptr 2 0 TEnv []), (5, .dat (.int .i64) i)], [(2, .box 0 false (.dat TEnv e_1))]⟩ = ref29_Up.l0 n port_1 e_1 m0 i
  | 0, _ => rfl
  | m0 + 1, i =>
    (ref29_Up.l0.step n m0 port_1 i e_1).trans (congrArg (fun k0 => ref29_Up.s0 n k0 port_1 i e_1) (funext fun i' => ref29_Up.l0.eq n port_1 e_1 m0 i'))
theorem ref29_Up.run0 (n : Nat) (x : pdens ref29_Up.ps) : Vi.run (ref29_Up.C n) n f41 ref29_Up.ps ref29_Up.rs x = ref29_Up.s n (fun (port_1' : Int) (i' : Int) (e_1' : Env) => it (ref29_Up.C n) n (Code.go ref29_Up.code [1, 0, 1, 0, 0]) (blockK 0 (seqK (ref29_Up.C n) n (Code.go ref29_Up.code [1, 1]) (bodyK (ref29_Up.C n) f41 ref29_Up.rs))) n ⟨[(1, .dat (.int .i64) (port_1')), (2, .ptr 2 0 TEnv []), (5, .dat (.int .i64) (i'))], [(2, .box 0 false (.dat TEnv (e_1')))]⟩) x.1 x.2 := by kernel_rfl
theorem ref29_Up.eq (n : Nat) (x : pdens ref29_Up.ps) : Vi.run (ref29_Up.C n) n f41 ref29_Up.ps ref29_Up.rs x = ref29_Up n x.1 x.2 :=
  (ref29_Up.run0 n x).trans (congrArg (fun k0 => ref29_Up.s n k0 x.1 x.2) (funext fun port_1' => funext fun i' => funext fun e_1' => ref29_Up.l0.eq n port_1' e_1' n i'))
theorem ref29_Up.sound (n : Nat) : SoundE prog 41 (ref29_Up.e n) :=
  soundE_of_run (C := ref29_Up.C n) (n := n) (ref29_Up.ok n) func41 (by kernel_rfl) (by kernel_rfl) (fun x r h => (ref29_Up.eq n x).trans h)

def ref29_Which.rs : List RTy := [.data (.int .i64)]
def ref29_Which.ps : List PTy := [.data TEnv, .data (.int .i64)]
noncomputable def ref29_Which.e (n : Nat) : Ent := ⟨ref29_Which.ps, ref29_Which.rs, fun x => ref29_Which x.1 x.2⟩
noncomputable def ref29_Which.C (n : Nat) : Ctx := { tab := tab, fts := fts, Γ := lookO [], Γc := lookO [], ntmps := f43.ntmps, keep := Vi.look ([], []) [] }
theorem ref29_Which.ok (n : Nat) : CtxOk prog (ref29_Which.C n) := ⟨types, ftsOk_, fns_nil, cls_nil, mixed⟩
theorem ref29_Which.eq (n : Nat) (x : pdens ref29_Which.ps) : Vi.run (ref29_Which.C n) n f43 ref29_Which.ps ref29_Which.rs x = ref29_Which x.1 x.2 := by kernel_rfl
theorem ref29_Which.sound (n : Nat) : SoundE prog 43 (ref29_Which.e n) :=
  soundE_of_run (C := ref29_Which.C n) (n := n) (ref29_Which.ok n) func43 (by kernel_rfl) (by kernel_rfl) (fun x r h => (ref29_Which.eq n x).trans h)

def ref29_Takes.rs : List RTy := [.fresh (.int .i64)]
def ref29_Takes.ps : List PTy := [.data TEnv, .data TGroup]
noncomputable def ref29_Takes.e (n : Nat) : Ent := ⟨ref29_Takes.ps, ref29_Takes.rs, fun x => ref29_Takes n x.1 x.2⟩
noncomputable def ref29_Takes.C (n : Nat) : Ctx := { tab := tab, fts := fts, Γ := lookO [(41, ref29_Up.e n), (43, ref29_Which.e n)], Γc := lookO [], ntmps := f46.ntmps, keep := Vi.look ([], []) [(3, ([2, 3, 5, 6], [2, 3]))] }
theorem ref29_Takes.ok (n : Nat) : CtxOk prog (ref29_Takes.C n) := ⟨types, ftsOk_, (fns_cons (ref29_Up.sound n) (fns_cons (ref29_Which.sound n) fns_nil)), cls_nil, mixed⟩
noncomputable def ref29_Takes.code : Code := bodyOf f46
theorem ref29_Takes.l0.step (n m0 : Nat) (out : (List Int)) (i : Int) (e_1 : Env) (g_1 : Group) : it (ref29_Takes.C n) n (Code.go ref29_Takes.code [1, 1, 0, 1, 0, 0]) (blockK 0 (seqK (ref29_Takes.C n) n (Code.go ref29_Takes.code [1, 1, 1]) (bodyK (ref29_Takes.C n) f46 ref29_Takes.rs))) (m0 + 1) ⟨[(2, .ptr 2 0 TEnv []), (3, .ptr 3 0 TGroup []), (5, .lst (.tip 100005 0) (.int .i64) out), (6, .dat (.int .i64) i)], [(100005, .tok 0), (2, .box 0 false (.dat TEnv e_1)), (3, .box 0 false (.dat TGroup g_1))]⟩ = ref29_Takes.s0 n (fun (out' : (List Int)) (i' : Int) => it (ref29_Takes.C n) n (Code.go ref29_Takes.code [1, 1, 0, 1, 0, 0]) (blockK 0 (seqK (ref29_Takes.C n) n (Code.go ref29_Takes.code [1, 1, 1]) (bodyK (ref29_Takes.C n) f46 ref29_Takes.rs))) m0 ⟨[(2, .ptr 2 0 TEnv []), (3, .ptr 3 0 TGroup []), (5, .lst (.tip 100005 0) (.int .i64) (out')), (6, .dat (.int .i64) (i'))], [(100005, .tok 0), (2, .box 0 false (.dat TEnv e_1)), (3, .box 0 false (.dat TGroup g_1))]⟩) out i e_1 g_1 := by kernel_rfl
theorem ref29_Takes.l0.eq (n : Nat) (e_1 : Env) (g_1 : Group) : ∀ (m0 : Nat) (out : (List Int)) (i : Int), it (ref29_Takes.C n) n (Code.go ref29_Takes.code [1, 1, 0, 1, 0, 0]) (blockK 0 (seqK (ref29_Takes.C n) n (Code.go ref29_Takes.code [1, 1, 1]) (bodyK (ref29_Takes.C n) f46 ref29_Takes.rs))) m0 ⟨[(2, .ptr 2 0 TEnv []), (3, .ptr 3 0 TGroup []), (5, .lst (.tip 100005 0) (.int .i64) out), (6, .dat (.int .i64) i)], [(100005, .tok 0), (2, .box 0 false (.dat TEnv e_1)), (3, .box 0 false (.dat TGroup g_1))]⟩ = ref29_Takes.l0 n e_1 g_1 m0 out i
  | 0, _, _ => rfl
  | m0 + 1, out, i =>
    (ref29_Takes.l0.step n m0 out i e_1 g_1).trans (congrArg (fun k0 => ref29_Takes.s0 n k0 out i e_1 g_1) (funext fun out' => funext fun i' => ref29_Takes.l0.eq n e_1 g_1 m0 out' i'))
theorem ref29_Takes.run0 (n : Nat) (x : pdens ref29_Takes.ps) : Vi.run (ref29_Takes.C n) n f46 ref29_Takes.ps ref29_Takes.rs x = ref29_Takes.s n (fun (out' : (List Int)) (i' : Int) (e_1' : Env) (g_1' : Group) => it (ref29_Takes.C n) n (Code.go ref29_Takes.code [1, 1, 0, 1, 0, 0]) (blockK 0 (seqK (ref29_Takes.C n) n (Code.go ref29_Takes.code [1, 1, 1]) (bodyK (ref29_Takes.C n) f46 ref29_Takes.rs))) n ⟨[(2, .ptr 2 0 TEnv []), (3, .ptr 3 0 TGroup []), (5, .lst (.tip 100005 0) (.int .i64) (out')), (6, .dat (.int .i64) (i'))], [(100005, .tok 0), (2, .box 0 false (.dat TEnv (e_1'))), (3, .box 0 false (.dat TGroup (g_1')))]⟩) x.1 x.2 := by kernel_rfl
theorem ref29_Takes.eq (n : Nat) (x : pdens ref29_Takes.ps) : Vi.run (ref29_Takes.C n) n f46 ref29_Takes.ps ref29_Takes.rs x = ref29_Takes n x.1 x.2 :=
  (ref29_Takes.run0 n x).trans (congrArg (fun k0 => ref29_Takes.s n k0 x.1 x.2) (funext fun out' => funext fun i' => funext fun e_1' => funext fun g_1' => ref29_Takes.l0.eq n e_1' g_1' n out' i'))
theorem ref29_Takes.sound (n : Nat) : SoundE prog 46 (ref29_Takes.e n) :=
  soundE_of_run (C := ref29_Takes.C n) (n := n) (ref29_Takes.ok n) func46 (by kernel_rfl) (by kernel_rfl) (fun x r h => (ref29_Takes.eq n x).trans h)

def law29_EnvTells.rs : List RTy := [.data .bool]
def law29_EnvTells.ps : List PTy := [.data TEnv, .data (.int .i64), .data (.int .i64), .data TGroup]
noncomputable def law29_EnvTells.e (n : Nat) : Ent := ⟨law29_EnvTells.ps, law29_EnvTells.rs, fun x => law29_EnvTells n x.1 x.2.1 x.2.2.1 x.2.2.2⟩
noncomputable def law29_EnvTells.C (n : Nat) : Ctx := { tab := tab, fts := fts, Γ := lookO [(39, law29_awake.e n), (40, env_Up.e n), (41, ref29_Up.e n), (42, env_Which.e n), (43, ref29_Which.e n), (44, slices_Equal_int.e n), (45, env_Takes.e n), (46, ref29_Takes.e n)], Γc := lookO [], ntmps := f9.ntmps, keep := Vi.look ([], []) [] }
theorem law29_EnvTells.ok (n : Nat) : CtxOk prog (law29_EnvTells.C n) := ⟨types, ftsOk_, (fns_cons (law29_awake.sound n) (fns_cons (env_Up.sound n) (fns_cons (ref29_Up.sound n) (fns_cons (env_Which.sound n) (fns_cons (ref29_Which.sound n) (fns_cons (slices_Equal_int.sound n) (fns_cons (env_Takes.sound n) (fns_cons (ref29_Takes.sound n) fns_nil)))))))), cls_nil, mixed⟩
theorem law29_EnvTells.eq (n : Nat) (x : pdens law29_EnvTells.ps) : Vi.run (law29_EnvTells.C n) n f9 law29_EnvTells.ps law29_EnvTells.rs x = law29_EnvTells n x.1 x.2.1 x.2.2.1 x.2.2.2 := by kernel_rfl
theorem law29_EnvTells.sound (n : Nat) : SoundE prog 9 (law29_EnvTells.e n) :=
  soundE_of_run (C := law29_EnvTells.C n) (n := n) (law29_EnvTells.ok n) func9 (by kernel_rfl) (by kernel_rfl) (fun x r h => (law29_EnvTells.eq n x).trans h)
def law29_EnvTells.g (n : Nat) (x : pdens (law29_EnvTells.τs.map PTy.data)) : Option Bool := law29_EnvTells n x.1 x.2.1 x.2.2.1 x.2.2.2
theorem law29_EnvTells.soundN (n : Nat) : SoundE prog 9 ⟨law29_EnvTells.τs.map PTy.data, [.data .bool], law29_EnvTells.g n⟩ := law29_EnvTells.sound n

def law29_EnvTurns.rs : List RTy := [.data .bool]
def law29_EnvTurns.ps : List PTy := [.data (.int .i32), .data (.int .u8), .data (.int .i16)]
noncomputable def law29_EnvTurns.e (n : Nat) : Ent := ⟨law29_EnvTurns.ps, law29_EnvTurns.rs, fun x => law29_EnvTurns n x.1 x.2.1 x.2.2⟩
noncomputable def law29_EnvTurns.C (n : Nat) : Ctx := { tab := tab, fts := fts, Γ := lookO [(39, law29_awake.e n), (42, env_Which.e n)], Γc := lookO [], ntmps := f10.ntmps, keep := Vi.look ([], []) [] }
theorem law29_EnvTurns.ok (n : Nat) : CtxOk prog (law29_EnvTurns.C n) := ⟨types, ftsOk_, (fns_cons (law29_awake.sound n) (fns_cons (env_Which.sound n) fns_nil)), cls_nil, mixed⟩
theorem law29_EnvTurns.eq (n : Nat) (x : pdens law29_EnvTurns.ps) : Vi.run (law29_EnvTurns.C n) n f10 law29_EnvTurns.ps law29_EnvTurns.rs x = law29_EnvTurns n x.1 x.2.1 x.2.2 := by kernel_rfl
theorem law29_EnvTurns.sound (n : Nat) : SoundE prog 10 (law29_EnvTurns.e n) :=
  soundE_of_run (C := law29_EnvTurns.C n) (n := n) (law29_EnvTurns.ok n) func10 (by kernel_rfl) (by kernel_rfl) (fun x r h => (law29_EnvTurns.eq n x).trans h)
def law29_EnvTurns.g (n : Nat) (x : pdens (law29_EnvTurns.τs.map PTy.data)) : Option Bool := law29_EnvTurns n x.1 x.2.1 x.2.2
theorem law29_EnvTurns.soundN (n : Nat) : SoundE prog 10 ⟨law29_EnvTurns.τs.map PTy.data, [.data .bool], law29_EnvTurns.g n⟩ := law29_EnvTurns.sound n

def law29_EnvFast_1.rs : List Ty := [.bool]
def law29_EnvFast_1.ps : List Ty := [TBucket]
def law29_EnvFast_1.caps : List PTy := [.cptr TEnv]
noncomputable def law29_EnvFast_1.e (n : Nat) : Cl := ⟨law29_EnvFast_1.ps, law29_EnvFast_1.caps, law29_EnvFast_1.rs, fun x c => law29_EnvFast_1 n x c⟩
noncomputable def law29_EnvFast_1.C (n : Nat) : Ctx := { tab := tab, fts := fts, Γ := lookO [(49, slices_Contains_int.e n)], Γc := lookO [], ntmps := f48.ntmps, keep := Vi.look ([], []) [] }
theorem law29_EnvFast_1.ok (n : Nat) : CtxOk prog (law29_EnvFast_1.C n) := ⟨types, ftsOk_, (fns_cons (slices_Contains_int.sound n) fns_nil), cls_nil, mixed⟩
theorem law29_EnvFast_1.eq (n : Nat) (x : dens law29_EnvFast_1.ps) (c : pdens law29_EnvFast_1.caps) : Vi.runC (law29_EnvFast_1.C n) n f48 law29_EnvFast_1.ps law29_EnvFast_1.caps law29_EnvFast_1.rs x c = law29_EnvFast_1 n x c := by kernel_rfl
theorem law29_EnvFast_1.sound (n : Nat) : SoundC prog 48 (law29_EnvFast_1.e n) :=
  soundC_of_run (C := law29_EnvFast_1.C n) (n := n) (law29_EnvFast_1.ok n) func48 (by kernel_rfl) (by kernel_rfl) (fun x c r h => (law29_EnvFast_1.eq n x c).trans h)

def law29_EnvFast.rs : List RTy := [.data .bool]
def law29_EnvFast.ps : List PTy := [.data TEnv, .data (.slc TBucket)]
noncomputable def law29_EnvFast.e (n : Nat) : Ent := ⟨law29_EnvFast.ps, law29_EnvFast.rs, fun x => law29_EnvFast n x.1 x.2⟩
noncomputable def law29_EnvFast.C (n : Nat) : Ctx := { tab := tab, fts := fts, Γ := lookO [(39, law29_awake.e n), (45, env_Takes.e n), (47, slices_IndexFunc_Bucket.e n)], Γc := lookO [(48, law29_EnvFast_1.e n)], ntmps := f11.ntmps, keep := Vi.look ([], []) [] }
theorem law29_EnvFast.ok (n : Nat) : CtxOk prog (law29_EnvFast.C n) := ⟨types, ftsOk_, (fns_cons (law29_awake.sound n) (fns_cons (env_Takes.sound n) (fns_cons (slices_IndexFunc_Bucket.sound n) fns_nil))), (cls_cons (law29_EnvFast_1.sound n) cls_nil), mixed⟩
theorem law29_EnvFast.eq (n : Nat) (x : pdens law29_EnvFast.ps) : Vi.run (law29_EnvFast.C n) n f11 law29_EnvFast.ps law29_EnvFast.rs x = law29_EnvFast n x.1 x.2 := by kernel_rfl
theorem law29_EnvFast.sound (n : Nat) : SoundE prog 11 (law29_EnvFast.e n) :=
  soundE_of_run (C := law29_EnvFast.C n) (n := n) (law29_EnvFast.ok n) func11 (by kernel_rfl) (by kernel_rfl) (fun x r h => (law29_EnvFast.eq n x).trans h)
def law29_EnvFast.g (n : Nat) (x : pdens (law29_EnvFast.τs.map PTy.data)) : Option Bool := law29_EnvFast n x.1 x.2
theorem law29_EnvFast.soundN (n : Nat) : SoundE prog 11 ⟨law29_EnvFast.τs.map PTy.data, [.data .bool], law29_EnvFast.g n⟩ := law29_EnvFast.sound n

def law29_EnvSelect.rs : List RTy := [.data .bool]
def law29_EnvSelect.ps : List PTy := [.data TEnv, .data (.slc TBucket)]
noncomputable def law29_EnvSelect.e (n : Nat) : Ent := ⟨law29_EnvSelect.ps, law29_EnvSelect.rs, fun x => law29_EnvSelect n x.1 x.2⟩
noncomputable def law29_EnvSelect.C (n : Nat) : Ctx := { tab := tab, fts := fts, Γ := lookO [(39, law29_awake.e n), (42, env_Which.e n), (45, env_Takes.e n)], Γc := lookO [], ntmps := f12.ntmps, keep := Vi.look ([], []) [] }
theorem law29_EnvSelect.ok (n : Nat) : CtxOk prog (law29_EnvSelect.C n) := ⟨types, ftsOk_, (fns_cons (law29_awake.sound n) (fns_cons (env_Which.sound n) (fns_cons (env_Takes.sound n) fns_nil))), cls_nil, mixed⟩
theorem law29_EnvSelect.eq (n : Nat) (x : pdens law29_EnvSelect.ps) : Vi.run (law29_EnvSelect.C n) n f12 law29_EnvSelect.ps law29_EnvSelect.rs x = law29_EnvSelect n x.1 x.2 := by kernel_rfl
theorem law29_EnvSelect.sound (n : Nat) : SoundE prog 12 (law29_EnvSelect.e n) :=
  soundE_of_run (C := law29_EnvSelect.C n) (n := n) (law29_EnvSelect.ok n) func12 (by kernel_rfl) (by kernel_rfl) (fun x r h => (law29_EnvSelect.eq n x).trans h)
def law29_EnvSelect.g (n : Nat) (x : pdens (law29_EnvSelect.τs.map PTy.data)) : Option Bool := law29_EnvSelect n x.1 x.2
theorem law29_EnvSelect.soundN (n : Nat) : SoundE prog 12 ⟨law29_EnvSelect.τs.map PTy.data, [.data .bool], law29_EnvSelect.g n⟩ := law29_EnvSelect.sound n

end Go.Fn
