/- That the functions compute what their native texts say: written by the session's program gen.py out of the translation. -/
import Derived.Test.YtagpigbfbhdoiaaViZ
import Derived.WalkKit
import Derived.WalkMore
import Derived.Laws.IdiomRangeMap
import Derived.Lib.Hide
import Derived.Carry
import Derived.Deep.QuietTactic
import Derived.BigQuiet
import Derived.Test.YtagpigbfbhdoiaaN
import Derived.Test.YtagpigbfbhdoiaaProg
set_option linter.unusedVariables false
set_option maxRecDepth 100000
namespace Go.Fn
open Go Go.Vi Go.Proofs.Try

def tab : List (Nat × TE) := [(3, ⟨(.int .i64), 0, 0⟩), (4, ⟨.bool, 0, 0⟩), (5, ⟨(.int .u8), 0, 0⟩), (23, ⟨(.slc TGroup), 0, 40⟩), (26, ⟨(.int .u64), 0, 0⟩), (28, ⟨TWide, 2, 0⟩), (65, ⟨(.slc TGroupMod), 0, 48⟩), (68, ⟨(.slc TBucket), 0, 48⟩), (70, ⟨TGroupMod, 4, 0⟩), (73, ⟨TFault, 3, 0⟩), (80, ⟨(.slc (.int .u8)), 0, 1⟩), (82, ⟨TGroup, 3, 0⟩), (83, ⟨(.slc (.int .i64)), 0, 8⟩), (128, ⟨TOxm, 4, 0⟩), (130, ⟨TAction, 6, 0⟩), (131, ⟨(.slc TAction), 0, 88⟩), (133, ⟨TBucket, 4, 0⟩), (151, ⟨(.slc .bool), 0, 1⟩)]
def fts : List Nat := []
def pts : List Nat := []
theorem tabOk_ : tabOk prog tab = true := by kernel_rfl
theorem types : Types prog tab := Types.of tabOk_
theorem ftsOk_ : ftsOk prog fts = true := by kernel_rfl
theorem ptsOk_ : ptsOk prog pts = true := by kernel_rfl
theorem mixed : prog.follows .mixedOrders = true := by kernel_rfl

def slices_IndexFunc_Bucket.rs : List RTy := [.data (.int .i64)]
def slices_IndexFunc_Bucket.ps : List PTy := [.data (.slc TBucket), .fnp [TBucket] [.bool]]
noncomputable def slices_IndexFunc_Bucket.e (n : Nat) : Ent := ⟨slices_IndexFunc_Bucket.ps, slices_IndexFunc_Bucket.rs, fun x => slices_IndexFunc_Bucket n x.1 x.2⟩
noncomputable def slices_IndexFunc_Bucket.C (n : Nat) : Ctx := { tab := tab, fts := fts, pts := pts, Γ := lookO [], Γc := lookO [], Γs := lookO [], Γm := lookO [], Γo := lookO [], Γd := lookO [], ntmps := f164.ntmps, keep := Vi.look ([], []) [(2, ([0, 1, 7, 8], []))], pins := [] }
theorem slices_IndexFunc_Bucket.ok (n : Nat) : CtxOk prog (slices_IndexFunc_Bucket.C n) := ⟨types, ftsOk_, ptsOk_, fns_nil, cls_nil, sqs_nil, ems_nil, mixed, ons_nil, des_nil⟩
noncomputable def slices_IndexFunc_Bucket.code : Code := bodyOf f164
theorem slices_IndexFunc_Bucket.l0.step (n : Nat) (m0 : Nat) (s_1 : (List Bucket)) (f_1 : (Bucket → Option Bool)) (v7 : Int) (v8 : Int) : it (EmR.no _) (slices_IndexFunc_Bucket.C n) n (Code.go slices_IndexFunc_Bucket.code [1, 0, 1, 0, 0]) (blockK 0 (seqK (EmR.no _) (slices_IndexFunc_Bucket.C n) n (Code.go slices_IndexFunc_Bucket.code [1, 1]) (bodyK (slices_IndexFunc_Bucket.C n) f164 slices_IndexFunc_Bucket.rs))) (m0 + 1) ⟨[(0, .dat (.slc TBucket) s_1), (1, .fn [TBucket] [.bool] f_1), (7, .dat (.int .i64) v7), (8, .dat (.int .i64) v8)], []⟩ = slices_IndexFunc_Bucket.s0 n (fun (v8' : Int) => it (EmR.no _) (slices_IndexFunc_Bucket.C n) n (Code.go slices_IndexFunc_Bucket.code [1, 0, 1, 0, 0]) (blockK 0 (seqK (EmR.no _) (slices_IndexFunc_Bucket.C n) n (Code.go slices_IndexFunc_Bucket.code [1, 1]) (bodyK (slices_IndexFunc_Bucket.C n) f164 slices_IndexFunc_Bucket.rs))) m0 ⟨[(0, .dat (.slc TBucket) s_1), (1, .fn [TBucket] [.bool] f_1), (7, .dat (.int .i64) v7), (8, .dat (.int .i64) (v8'))], []⟩) s_1 f_1 v7 v8 := by kernel_rfl
theorem slices_IndexFunc_Bucket.l0.eq (n : Nat) (s_1 : (List Bucket)) (f_1 : (Bucket → Option Bool)) (v7 : Int) : ∀ (m0 : Nat) (v8 : Int), it (EmR.no _) (slices_IndexFunc_Bucket.C n) n (Code.go slices_IndexFunc_Bucket.code [1, 0, 1, 0, 0]) (blockK 0 (seqK (EmR.no _) (slices_IndexFunc_Bucket.C n) n (Code.go slices_IndexFunc_Bucket.code [1, 1]) (bodyK (slices_IndexFunc_Bucket.C n) f164 slices_IndexFunc_Bucket.rs))) m0 ⟨[(0, .dat (.slc TBucket) s_1), (1, .fn [TBucket] [.bool] f_1), (7, .dat (.int .i64) v7), (8, .dat (.int .i64) v8)], []⟩ = slices_IndexFunc_Bucket.l0 n s_1 f_1 v7 m0 v8
  | 0, _ => rfl
  | m0 + 1, v8 =>
    (slices_IndexFunc_Bucket.l0.step n m0 s_1 f_1 v7 v8).trans (congr1 (fun k0 => slices_IndexFunc_Bucket.s0 n k0 s_1 f_1 v7 v8) (funext fun v8' => slices_IndexFunc_Bucket.l0.eq n s_1 f_1 v7 m0 v8'))
theorem slices_IndexFunc_Bucket.run0 (n : Nat) (x : pdens slices_IndexFunc_Bucket.ps) : Vi.run (slices_IndexFunc_Bucket.C n) n f164 slices_IndexFunc_Bucket.ps slices_IndexFunc_Bucket.rs x = slices_IndexFunc_Bucket.s n (fun (s_1' : (List Bucket)) (f_1' : (Bucket → Option Bool)) (v7' : Int) (v8' : Int) => it (EmR.no _) (slices_IndexFunc_Bucket.C n) n (Code.go slices_IndexFunc_Bucket.code [1, 0, 1, 0, 0]) (blockK 0 (seqK (EmR.no _) (slices_IndexFunc_Bucket.C n) n (Code.go slices_IndexFunc_Bucket.code [1, 1]) (bodyK (slices_IndexFunc_Bucket.C n) f164 slices_IndexFunc_Bucket.rs))) n ⟨[(0, .dat (.slc TBucket) (s_1')), (1, .fn [TBucket] [.bool] (f_1')), (7, .dat (.int .i64) (v7')), (8, .dat (.int .i64) (v8'))], []⟩) x.1 x.2 := by kernel_rfl
theorem slices_IndexFunc_Bucket.eq (n : Nat) (x : pdens slices_IndexFunc_Bucket.ps) : Vi.run (slices_IndexFunc_Bucket.C n) n f164 slices_IndexFunc_Bucket.ps slices_IndexFunc_Bucket.rs x = slices_IndexFunc_Bucket n x.1 x.2 :=
  (slices_IndexFunc_Bucket.run0 n x).trans (congr1 (fun k0 => slices_IndexFunc_Bucket.s n k0 x.1 x.2) (funext fun s_1' => funext fun f_1' => funext fun v7' => funext fun v8' => slices_IndexFunc_Bucket.l0.eq n s_1' f_1' v7' n v8'))
theorem slices_IndexFunc_Bucket.sound (n : Nat) : SoundE prog 164 (slices_IndexFunc_Bucket.e n) :=
  soundE_of_run (C := slices_IndexFunc_Bucket.C n) (n := n) (slices_IndexFunc_Bucket.ok n) func164 (by kernel_rfl) (by kernel_rfl) (fun x r h => (slices_IndexFunc_Bucket.eq n x).trans h)

def slices_ContainsFunc_Bucket.rs : List RTy := [.data .bool]
def slices_ContainsFunc_Bucket.ps : List PTy := [.data (.slc TBucket), .fnp [TBucket] [.bool]]
noncomputable def slices_ContainsFunc_Bucket.e (n : Nat) : Ent := ⟨slices_ContainsFunc_Bucket.ps, slices_ContainsFunc_Bucket.rs, fun x => slices_ContainsFunc_Bucket n x.1 x.2⟩
noncomputable def slices_ContainsFunc_Bucket.C (n : Nat) : Ctx := { tab := tab, fts := fts, pts := pts, Γ := lookO [(164, slices_IndexFunc_Bucket.e n)], Γc := lookO [], Γs := lookO [], Γm := lookO [], Γo := lookO [], Γd := lookO [], ntmps := f133.ntmps, keep := Vi.look ([], []) [], pins := [] }
theorem slices_ContainsFunc_Bucket.ok (n : Nat) : CtxOk prog (slices_ContainsFunc_Bucket.C n) := ⟨types, ftsOk_, ptsOk_, (fns_cons (slices_IndexFunc_Bucket.sound n) fns_nil), cls_nil, sqs_nil, ems_nil, mixed, ons_nil, des_nil⟩
theorem slices_ContainsFunc_Bucket.eq (n : Nat) (x : pdens slices_ContainsFunc_Bucket.ps) : Vi.run (slices_ContainsFunc_Bucket.C n) n f133 slices_ContainsFunc_Bucket.ps slices_ContainsFunc_Bucket.rs x = slices_ContainsFunc_Bucket n x.1 x.2 := by kernel_rfl
theorem slices_ContainsFunc_Bucket.sound (n : Nat) : SoundE prog 133 (slices_ContainsFunc_Bucket.e n) :=
  soundE_of_run (C := slices_ContainsFunc_Bucket.C n) (n := n) (slices_ContainsFunc_Bucket.ok n) func133 (by kernel_rfl) (by kernel_rfl) (fun x r h => (slices_ContainsFunc_Bucket.eq n x).trans h)

def plain_Acts.rs : List RTy := [.data .bool]
def plain_Acts.ps : List PTy := [.data (.slc TAction)]
noncomputable def plain_Acts.e (n : Nat) : Ent := ⟨plain_Acts.ps, plain_Acts.rs, fun x => some (plain_Acts x)⟩
noncomputable def plain_Acts.C (n : Nat) : Ctx := { tab := tab, fts := fts, pts := pts, Γ := lookO [], Γc := lookO [], Γs := lookO [], Γm := lookO [], Γo := lookO [], Γd := lookO [], ntmps := f135.ntmps, keep := Vi.look ([], []) [], pins := [] }
theorem plain_Acts.ok (n : Nat) : CtxOk prog (plain_Acts.C n) := ⟨types, ftsOk_, ptsOk_, fns_nil, cls_nil, sqs_nil, ems_nil, mixed, ons_nil, des_nil⟩
theorem plain_Acts.eq (n : Nat) (x : pdens plain_Acts.ps) : Vi.run (plain_Acts.C n) n f135 plain_Acts.ps plain_Acts.rs x = some (plain_Acts x) := by kernel_rfl
theorem plain_Acts.sound (n : Nat) : SoundE prog 135 (plain_Acts.e n) :=
  soundE_of_run (C := plain_Acts.C n) (n := n) (plain_Acts.ok n) func135 (by kernel_rfl) (by kernel_rfl) (fun x r h => (plain_Acts.eq n x).trans h)

def plain_Buckets_1_c.rs : List Ty := [.bool]
def plain_Buckets_1_c.ps : List Ty := [TBucket]
def plain_Buckets_1_c.caps : List PTy := []
noncomputable def plain_Buckets_1_c.e (n : Nat) : Cl := ⟨plain_Buckets_1_c.ps, plain_Buckets_1_c.caps, plain_Buckets_1_c.rs, fun x c => some (plain_Buckets_1_c x)⟩
noncomputable def plain_Buckets_1_c.C (n : Nat) : Ctx := { tab := tab, fts := fts, pts := pts, Γ := lookO [(135, plain_Acts.e n)], Γc := lookO [], Γs := lookO [], Γm := lookO [], Γo := lookO [], Γd := lookO [], ntmps := f134.ntmps, keep := Vi.look ([], []) [], pins := [] }
theorem plain_Buckets_1_c.ok (n : Nat) : CtxOk prog (plain_Buckets_1_c.C n) := ⟨types, ftsOk_, ptsOk_, (fns_cons (plain_Acts.sound n) fns_nil), cls_nil, sqs_nil, ems_nil, mixed, ons_nil, des_nil⟩
theorem plain_Buckets_1_c.eq (n : Nat) (x : dens plain_Buckets_1_c.ps) (c : pdens plain_Buckets_1_c.caps) : Vi.runC (plain_Buckets_1_c.C n) n f134 plain_Buckets_1_c.ps plain_Buckets_1_c.caps plain_Buckets_1_c.rs x c = some (plain_Buckets_1_c x) := by kernel_rfl
theorem plain_Buckets_1_c.sound (n : Nat) : SoundC prog 134 (plain_Buckets_1_c.e n) :=
  soundC_of_run (C := plain_Buckets_1_c.C n) (n := n) (plain_Buckets_1_c.ok n) func134 (by kernel_rfl) (by kernel_rfl) (fun x c r h => (plain_Buckets_1_c.eq n x c).trans h)

def plain_Buckets.rs : List RTy := [.data .bool]
def plain_Buckets.ps : List PTy := [.data (.slc TBucket), .data (.int .i64)]
noncomputable def plain_Buckets.e (n : Nat) : Ent := ⟨plain_Buckets.ps, plain_Buckets.rs, fun x => plain_Buckets n x.1 x.2⟩
noncomputable def plain_Buckets.C (n : Nat) : Ctx := { tab := tab, fts := fts, pts := pts, Γ := lookO [(133, slices_ContainsFunc_Bucket.e n)], Γc := lookO [(134, plain_Buckets_1_c.e n)], Γs := lookO [], Γm := lookO [], Γo := lookO [], Γd := lookO [], ntmps := f85.ntmps, keep := Vi.look ([], []) [], pins := [] }
theorem plain_Buckets.ok (n : Nat) : CtxOk prog (plain_Buckets.C n) := ⟨types, ftsOk_, ptsOk_, (fns_cons (slices_ContainsFunc_Bucket.sound n) fns_nil), (cls_cons (plain_Buckets_1_c.sound n) cls_nil), sqs_nil, ems_nil, mixed, ons_nil, des_nil⟩
theorem plain_Buckets.eq (n : Nat) (x : pdens plain_Buckets.ps) : Vi.run (plain_Buckets.C n) n f85 plain_Buckets.ps plain_Buckets.rs x = plain_Buckets n x.1 x.2 := by kernel_rfl
theorem plain_Buckets.sound (n : Nat) : SoundE prog 85 (plain_Buckets.e n) :=
  soundE_of_run (C := plain_Buckets.C n) (n := n) (plain_Buckets.ok n) func85 (by kernel_rfl) (by kernel_rfl) (fun x r h => (plain_Buckets.eq n x).trans h)

def plain_Groups_1.rs : List Ty := [.bool]
def plain_Groups_1.ps : List Ty := [TGroup]
def plain_Groups_1.caps : List PTy := [.cptr (.int .i64)]
noncomputable def plain_Groups_1.e (n : Nat) : Cl := ⟨plain_Groups_1.ps, plain_Groups_1.caps, plain_Groups_1.rs, fun x c => plain_Groups_1 n x c⟩
noncomputable def plain_Groups_1.C (n : Nat) : Ctx := { tab := tab, fts := fts, pts := pts, Γ := lookO [(85, plain_Buckets.e n)], Γc := lookO [], Γs := lookO [], Γm := lookO [], Γo := lookO [], Γd := lookO [], ntmps := f84.ntmps, keep := Vi.look ([], []) [], pins := [] }
theorem plain_Groups_1.ok (n : Nat) : CtxOk prog (plain_Groups_1.C n) := ⟨types, ftsOk_, ptsOk_, (fns_cons (plain_Buckets.sound n) fns_nil), cls_nil, sqs_nil, ems_nil, mixed, ons_nil, des_nil⟩
theorem plain_Groups_1.eq (n : Nat) (x : dens plain_Groups_1.ps) (c : pdens plain_Groups_1.caps) : Vi.runC (plain_Groups_1.C n) n f84 plain_Groups_1.ps plain_Groups_1.caps plain_Groups_1.rs x c = plain_Groups_1 n x c := by kernel_rfl
theorem plain_Groups_1.sound (n : Nat) : SoundC prog 84 (plain_Groups_1.e n) :=
  soundC_of_run (C := plain_Groups_1.C n) (n := n) (plain_Groups_1.ok n) func84 (by kernel_rfl) (by kernel_rfl) (fun x c r h => (plain_Groups_1.eq n x c).trans h)

def slices_IndexFunc_Group.rs : List RTy := [.data (.int .i64)]
def slices_IndexFunc_Group.ps : List PTy := [.data (.slc TGroup), .fnp [TGroup] [.bool]]
noncomputable def slices_IndexFunc_Group.e (n : Nat) : Ent := ⟨slices_IndexFunc_Group.ps, slices_IndexFunc_Group.rs, fun x => slices_IndexFunc_Group n x.1 x.2⟩
noncomputable def slices_IndexFunc_Group.C (n : Nat) : Ctx := { tab := tab, fts := fts, pts := pts, Γ := lookO [], Γc := lookO [], Γs := lookO [], Γm := lookO [], Γo := lookO [], Γd := lookO [], ntmps := f100.ntmps, keep := Vi.look ([], []) [(2, ([0, 1, 7, 8], []))], pins := [] }
theorem slices_IndexFunc_Group.ok (n : Nat) : CtxOk prog (slices_IndexFunc_Group.C n) := ⟨types, ftsOk_, ptsOk_, fns_nil, cls_nil, sqs_nil, ems_nil, mixed, ons_nil, des_nil⟩
noncomputable def slices_IndexFunc_Group.code : Code := bodyOf f100
theorem slices_IndexFunc_Group.l0.step (n : Nat) (m0 : Nat) (s_1 : (List Group)) (f_1 : (Group → Option Bool)) (v7 : Int) (v8 : Int) : it (EmR.no _) (slices_IndexFunc_Group.C n) n (Code.go slices_IndexFunc_Group.code [1, 0, 1, 0, 0]) (blockK 0 (seqK (EmR.no _) (slices_IndexFunc_Group.C n) n (Code.go slices_IndexFunc_Group.code [1, 1]) (bodyK (slices_IndexFunc_Group.C n) f100 slices_IndexFunc_Group.rs))) (m0 + 1) ⟨[(0, .dat (.slc TGroup) s_1), (1, .fn [TGroup] [.bool] f_1), (7, .dat (.int .i64) v7), (8, .dat (.int .i64) v8)], []⟩ = slices_IndexFunc_Group.s0 n (fun (v8' : Int) => it (EmR.no _) (slices_IndexFunc_Group.C n) n (Code.go slices_IndexFunc_Group.code [1, 0, 1, 0, 0]) (blockK 0 (seqK (EmR.no _) (slices_IndexFunc_Group.C n) n (Code.go slices_IndexFunc_Group.code [1, 1]) (bodyK (slices_IndexFunc_Group.C n) f100 slices_IndexFunc_Group.rs))) m0 ⟨[(0, .dat (.slc TGroup) s_1), (1, .fn [TGroup] [.bool] f_1), (7, .dat (.int .i64) v7), (8, .dat (.int .i64) (v8'))], []⟩) s_1 f_1 v7 v8 := by kernel_rfl
theorem slices_IndexFunc_Group.l0.eq (n : Nat) (s_1 : (List Group)) (f_1 : (Group → Option Bool)) (v7 : Int) : ∀ (m0 : Nat) (v8 : Int), it (EmR.no _) (slices_IndexFunc_Group.C n) n (Code.go slices_IndexFunc_Group.code [1, 0, 1, 0, 0]) (blockK 0 (seqK (EmR.no _) (slices_IndexFunc_Group.C n) n (Code.go slices_IndexFunc_Group.code [1, 1]) (bodyK (slices_IndexFunc_Group.C n) f100 slices_IndexFunc_Group.rs))) m0 ⟨[(0, .dat (.slc TGroup) s_1), (1, .fn [TGroup] [.bool] f_1), (7, .dat (.int .i64) v7), (8, .dat (.int .i64) v8)], []⟩ = slices_IndexFunc_Group.l0 n s_1 f_1 v7 m0 v8
  | 0, _ => rfl
  | m0 + 1, v8 =>
    (slices_IndexFunc_Group.l0.step n m0 s_1 f_1 v7 v8).trans (congr1 (fun k0 => slices_IndexFunc_Group.s0 n k0 s_1 f_1 v7 v8) (funext fun v8' => slices_IndexFunc_Group.l0.eq n s_1 f_1 v7 m0 v8'))
theorem slices_IndexFunc_Group.run0 (n : Nat) (x : pdens slices_IndexFunc_Group.ps) : Vi.run (slices_IndexFunc_Group.C n) n f100 slices_IndexFunc_Group.ps slices_IndexFunc_Group.rs x = slices_IndexFunc_Group.s n (fun (s_1' : (List Group)) (f_1' : (Group → Option Bool)) (v7' : Int) (v8' : Int) => it (EmR.no _) (slices_IndexFunc_Group.C n) n (Code.go slices_IndexFunc_Group.code [1, 0, 1, 0, 0]) (blockK 0 (seqK (EmR.no _) (slices_IndexFunc_Group.C n) n (Code.go slices_IndexFunc_Group.code [1, 1]) (bodyK (slices_IndexFunc_Group.C n) f100 slices_IndexFunc_Group.rs))) n ⟨[(0, .dat (.slc TGroup) (s_1')), (1, .fn [TGroup] [.bool] (f_1')), (7, .dat (.int .i64) (v7')), (8, .dat (.int .i64) (v8'))], []⟩) x.1 x.2 := by kernel_rfl
theorem slices_IndexFunc_Group.eq (n : Nat) (x : pdens slices_IndexFunc_Group.ps) : Vi.run (slices_IndexFunc_Group.C n) n f100 slices_IndexFunc_Group.ps slices_IndexFunc_Group.rs x = slices_IndexFunc_Group n x.1 x.2 :=
  (slices_IndexFunc_Group.run0 n x).trans (congr1 (fun k0 => slices_IndexFunc_Group.s n k0 x.1 x.2) (funext fun s_1' => funext fun f_1' => funext fun v7' => funext fun v8' => slices_IndexFunc_Group.l0.eq n s_1' f_1' v7' n v8'))
theorem slices_IndexFunc_Group.sound (n : Nat) : SoundE prog 100 (slices_IndexFunc_Group.e n) :=
  soundE_of_run (C := slices_IndexFunc_Group.C n) (n := n) (slices_IndexFunc_Group.ok n) func100 (by kernel_rfl) (by kernel_rfl) (fun x r h => (slices_IndexFunc_Group.eq n x).trans h)

def slices_ContainsFunc_Group.rs : List RTy := [.data .bool]
def slices_ContainsFunc_Group.ps : List PTy := [.data (.slc TGroup), .fnp [TGroup] [.bool]]
noncomputable def slices_ContainsFunc_Group.e (n : Nat) : Ent := ⟨slices_ContainsFunc_Group.ps, slices_ContainsFunc_Group.rs, fun x => slices_ContainsFunc_Group n x.1 x.2⟩
noncomputable def slices_ContainsFunc_Group.C (n : Nat) : Ctx := { tab := tab, fts := fts, pts := pts, Γ := lookO [(100, slices_IndexFunc_Group.e n)], Γc := lookO [], Γs := lookO [], Γm := lookO [], Γo := lookO [], Γd := lookO [], ntmps := f50.ntmps, keep := Vi.look ([], []) [], pins := [] }
theorem slices_ContainsFunc_Group.ok (n : Nat) : CtxOk prog (slices_ContainsFunc_Group.C n) := ⟨types, ftsOk_, ptsOk_, (fns_cons (slices_IndexFunc_Group.sound n) fns_nil), cls_nil, sqs_nil, ems_nil, mixed, ons_nil, des_nil⟩
theorem slices_ContainsFunc_Group.eq (n : Nat) (x : pdens slices_ContainsFunc_Group.ps) : Vi.run (slices_ContainsFunc_Group.C n) n f50 slices_ContainsFunc_Group.ps slices_ContainsFunc_Group.rs x = slices_ContainsFunc_Group n x.1 x.2 := by kernel_rfl
theorem slices_ContainsFunc_Group.sound (n : Nat) : SoundE prog 50 (slices_ContainsFunc_Group.e n) :=
  soundE_of_run (C := slices_ContainsFunc_Group.C n) (n := n) (slices_ContainsFunc_Group.ok n) func50 (by kernel_rfl) (by kernel_rfl) (fun x r h => (slices_ContainsFunc_Group.eq n x).trans h)

def plain_Groups.rs : List RTy := [.data .bool]
def plain_Groups.ps : List PTy := [.data (.slc TGroup), .data (.int .i64), .data (.int .i64)]
noncomputable def plain_Groups.e (n : Nat) : Ent := ⟨plain_Groups.ps, plain_Groups.rs, fun x => plain_Groups n x.1 x.2.1 x.2.2⟩
noncomputable def plain_Groups.C (n : Nat) : Ctx := { tab := tab, fts := fts, pts := pts, Γ := lookO [(50, slices_ContainsFunc_Group.e n)], Γc := lookO [(84, plain_Groups_1.e n)], Γs := lookO [], Γm := lookO [], Γo := lookO [], Γd := lookO [], ntmps := f39.ntmps, keep := Vi.look ([], []) [], pins := [], cold := [5] }
theorem plain_Groups.ok (n : Nat) : CtxOk prog (plain_Groups.C n) := ⟨types, ftsOk_, ptsOk_, (fns_cons (slices_ContainsFunc_Group.sound n) fns_nil), (cls_cons (plain_Groups_1.sound n) cls_nil), sqs_nil, ems_nil, mixed, ons_nil, des_nil⟩
theorem plain_Groups.eq (n : Nat) (x : pdens plain_Groups.ps) : Vi.run (plain_Groups.C n) n f39 plain_Groups.ps plain_Groups.rs x = plain_Groups n x.1 x.2.1 x.2.2 := by kernel_rfl
theorem plain_Groups.sound (n : Nat) : SoundE prog 39 (plain_Groups.e n) :=
  soundE_of_run (C := plain_Groups.C n) (n := n) (plain_Groups.ok n) func39 (by kernel_rfl) (by kernel_rfl) (fun x r h => (plain_Groups.eq n x).trans h)

def slices_IndexFunc_GroupMod.rs : List RTy := [.data (.int .i64)]
def slices_IndexFunc_GroupMod.ps : List PTy := [.data (.slc TGroupMod), .fnp [TGroupMod] [.bool]]
noncomputable def slices_IndexFunc_GroupMod.e (n : Nat) : Ent := ⟨slices_IndexFunc_GroupMod.ps, slices_IndexFunc_GroupMod.rs, fun x => slices_IndexFunc_GroupMod n x.1 x.2⟩
noncomputable def slices_IndexFunc_GroupMod.C (n : Nat) : Ctx := { tab := tab, fts := fts, pts := pts, Γ := lookO [], Γc := lookO [], Γs := lookO [], Γm := lookO [], Γo := lookO [], Γd := lookO [], ntmps := f86.ntmps, keep := Vi.look ([], []) [(2, ([0, 1, 7, 8], []))], pins := [] }
theorem slices_IndexFunc_GroupMod.ok (n : Nat) : CtxOk prog (slices_IndexFunc_GroupMod.C n) := ⟨types, ftsOk_, ptsOk_, fns_nil, cls_nil, sqs_nil, ems_nil, mixed, ons_nil, des_nil⟩
noncomputable def slices_IndexFunc_GroupMod.code : Code := bodyOf f86
theorem slices_IndexFunc_GroupMod.l0.step (n : Nat) (m0 : Nat) (s_1 : (List GroupMod)) (f_1 : (GroupMod → Option Bool)) (v7 : Int) (v8 : Int) : it (EmR.no _) (slices_IndexFunc_GroupMod.C n) n (Code.go slices_IndexFunc_GroupMod.code [1, 0, 1, 0, 0]) (blockK 0 (seqK (EmR.no _) (slices_IndexFunc_GroupMod.C n) n (Code.go slices_IndexFunc_GroupMod.code [1, 1]) (bodyK (slices_IndexFunc_GroupMod.C n) f86 slices_IndexFunc_GroupMod.rs))) (m0 + 1) ⟨[(0, .dat (.slc TGroupMod) s_1), (1, .fn [TGroupMod] [.bool] f_1), (7, .dat (.int .i64) v7), (8, .dat (.int .i64) v8)], []⟩ = slices_IndexFunc_GroupMod.s0 n (fun (v8' : Int) => it (EmR.no _) (slices_IndexFunc_GroupMod.C n) n (Code.go slices_IndexFunc_GroupMod.code [1, 0, 1, 0, 0]) (blockK 0 (seqK (EmR.no _) (slices_IndexFunc_GroupMod.C n) n (Code.go slices_IndexFunc_GroupMod.code [1, 1]) (bodyK (slices_IndexFunc_GroupMod.C n) f86 slices_IndexFunc_GroupMod.rs))) m0 ⟨[(0, .dat (.slc TGroupMod) s_1), (1, .fn [TGroupMod] [.bool] f_1), (7, .dat (.int .i64) v7), (8, .dat (.int .i64) (v8'))], []⟩) s_1 f_1 v7 v8 := by kernel_rfl
theorem slices_IndexFunc_GroupMod.l0.eq (n : Nat) (s_1 : (List GroupMod)) (f_1 : (GroupMod → Option Bool)) (v7 : Int) : ∀ (m0 : Nat) (v8 : Int), it (EmR.no _) (slices_IndexFunc_GroupMod.C n) n (Code.go slices_IndexFunc_GroupMod.code [1, 0, 1, 0, 0]) (blockK 0 (seqK (EmR.no _) (slices_IndexFunc_GroupMod.C n) n (Code.go slices_IndexFunc_GroupMod.code [1, 1]) (bodyK (slices_IndexFunc_GroupMod.C n) f86 slices_IndexFunc_GroupMod.rs))) m0 ⟨[(0, .dat (.slc TGroupMod) s_1), (1, .fn [TGroupMod] [.bool] f_1), (7, .dat (.int .i64) v7), (8, .dat (.int .i64) v8)], []⟩ = slices_IndexFunc_GroupMod.l0 n s_1 f_1 v7 m0 v8
  | 0, _ => rfl
  | m0 + 1, v8 =>
    (slices_IndexFunc_GroupMod.l0.step n m0 s_1 f_1 v7 v8).trans (congr1 (fun k0 => slices_IndexFunc_GroupMod.s0 n k0 s_1 f_1 v7 v8) (funext fun v8' => slices_IndexFunc_GroupMod.l0.eq n s_1 f_1 v7 m0 v8'))
theorem slices_IndexFunc_GroupMod.run0 (n : Nat) (x : pdens slices_IndexFunc_GroupMod.ps) : Vi.run (slices_IndexFunc_GroupMod.C n) n f86 slices_IndexFunc_GroupMod.ps slices_IndexFunc_GroupMod.rs x = slices_IndexFunc_GroupMod.s n (fun (s_1' : (List GroupMod)) (f_1' : (GroupMod → Option Bool)) (v7' : Int) (v8' : Int) => it (EmR.no _) (slices_IndexFunc_GroupMod.C n) n (Code.go slices_IndexFunc_GroupMod.code [1, 0, 1, 0, 0]) (blockK 0 (seqK (EmR.no _) (slices_IndexFunc_GroupMod.C n) n (Code.go slices_IndexFunc_GroupMod.code [1, 1]) (bodyK (slices_IndexFunc_GroupMod.C n) f86 slices_IndexFunc_GroupMod.rs))) n ⟨[(0, .dat (.slc TGroupMod) (s_1')), (1, .fn [TGroupMod] [.bool] (f_1')), (7, .dat (.int .i64) (v7')), (8, .dat (.int .i64) (v8'))], []⟩) x.1 x.2 := by kernel_rfl
theorem slices_IndexFunc_GroupMod.eq (n : Nat) (x : pdens slices_IndexFunc_GroupMod.ps) : Vi.run (slices_IndexFunc_GroupMod.C n) n f86 slices_IndexFunc_GroupMod.ps slices_IndexFunc_GroupMod.rs x = slices_IndexFunc_GroupMod n x.1 x.2 :=
  (slices_IndexFunc_GroupMod.run0 n x).trans (congr1 (fun k0 => slices_IndexFunc_GroupMod.s n k0 x.1 x.2) (funext fun s_1' => funext fun f_1' => funext fun v7' => funext fun v8' => slices_IndexFunc_GroupMod.l0.eq n s_1' f_1' v7' n v8'))
theorem slices_IndexFunc_GroupMod.sound (n : Nat) : SoundE prog 86 (slices_IndexFunc_GroupMod.e n) :=
  soundE_of_run (C := slices_IndexFunc_GroupMod.C n) (n := n) (slices_IndexFunc_GroupMod.ok n) func86 (by kernel_rfl) (by kernel_rfl) (fun x r h => (slices_IndexFunc_GroupMod.eq n x).trans h)

def slices_ContainsFunc_GroupMod.rs : List RTy := [.data .bool]
def slices_ContainsFunc_GroupMod.ps : List PTy := [.data (.slc TGroupMod), .fnp [TGroupMod] [.bool]]
noncomputable def slices_ContainsFunc_GroupMod.e (n : Nat) : Ent := ⟨slices_ContainsFunc_GroupMod.ps, slices_ContainsFunc_GroupMod.rs, fun x => slices_ContainsFunc_GroupMod n x.1 x.2⟩
noncomputable def slices_ContainsFunc_GroupMod.C (n : Nat) : Ctx := { tab := tab, fts := fts, pts := pts, Γ := lookO [(86, slices_IndexFunc_GroupMod.e n)], Γc := lookO [], Γs := lookO [], Γm := lookO [], Γo := lookO [], Γd := lookO [], ntmps := f40.ntmps, keep := Vi.look ([], []) [], pins := [] }
theorem slices_ContainsFunc_GroupMod.ok (n : Nat) : CtxOk prog (slices_ContainsFunc_GroupMod.C n) := ⟨types, ftsOk_, ptsOk_, (fns_cons (slices_IndexFunc_GroupMod.sound n) fns_nil), cls_nil, sqs_nil, ems_nil, mixed, ons_nil, des_nil⟩
theorem slices_ContainsFunc_GroupMod.eq (n : Nat) (x : pdens slices_ContainsFunc_GroupMod.ps) : Vi.run (slices_ContainsFunc_GroupMod.C n) n f40 slices_ContainsFunc_GroupMod.ps slices_ContainsFunc_GroupMod.rs x = slices_ContainsFunc_GroupMod n x.1 x.2 := by kernel_rfl
theorem slices_ContainsFunc_GroupMod.sound (n : Nat) : SoundE prog 40 (slices_ContainsFunc_GroupMod.e n) :=
  soundE_of_run (C := slices_ContainsFunc_GroupMod.C n) (n := n) (slices_ContainsFunc_GroupMod.ok n) func40 (by kernel_rfl) (by kernel_rfl) (fun x r h => (slices_ContainsFunc_GroupMod.eq n x).trans h)

def law24_long_c.rs : List Ty := [.bool]
def law24_long_c.ps : List Ty := [TGroupMod]
def law24_long_c.caps : List PTy := []
noncomputable def law24_long_c.e (n : Nat) : Cl := ⟨law24_long_c.ps, law24_long_c.caps, law24_long_c.rs, fun x c => law24_long_c n x⟩
noncomputable def law24_long_c.C (n : Nat) : Ctx := { tab := tab, fts := fts, pts := pts, Γ := lookO [(85, plain_Buckets.e n)], Γc := lookO [], Γs := lookO [], Γm := lookO [], Γo := lookO [], Γd := lookO [], ntmps := f41.ntmps, keep := Vi.look ([], []) [], pins := [] }
theorem law24_long_c.ok (n : Nat) : CtxOk prog (law24_long_c.C n) := ⟨types, ftsOk_, ptsOk_, (fns_cons (plain_Buckets.sound n) fns_nil), cls_nil, sqs_nil, ems_nil, mixed, ons_nil, des_nil⟩
theorem law24_long_c.eq (n : Nat) (x : dens law24_long_c.ps) (c : pdens law24_long_c.caps) : Vi.runC (law24_long_c.C n) n f41 law24_long_c.ps law24_long_c.caps law24_long_c.rs x c = law24_long_c n x := by kernel_rfl
theorem law24_long_c.sound (n : Nat) : SoundC prog 41 (law24_long_c.e n) :=
  soundC_of_run (C := law24_long_c.C n) (n := n) (law24_long_c.ok n) func41 (by kernel_rfl) (by kernel_rfl) (fun x c r h => (law24_long_c.eq n x c).trans h)

def group_place_1.rs : List Ty := [.bool]
def group_place_1.ps : List Ty := [TGroup]
def group_place_1.caps : List PTy := [.cptr (.int .i64)]
noncomputable def group_place_1.e (n : Nat) : Cl := ⟨group_place_1.ps, group_place_1.caps, group_place_1.rs, fun x c => some (group_place_1 x c)⟩
noncomputable def group_place_1.C (n : Nat) : Ctx := { tab := tab, fts := fts, pts := pts, Γ := lookO [], Γc := lookO [], Γs := lookO [], Γm := lookO [], Γo := lookO [], Γd := lookO [], ntmps := f136.ntmps, keep := Vi.look ([], []) [], pins := [] }
theorem group_place_1.ok (n : Nat) : CtxOk prog (group_place_1.C n) := ⟨types, ftsOk_, ptsOk_, fns_nil, cls_nil, sqs_nil, ems_nil, mixed, ons_nil, des_nil⟩
theorem group_place_1.eq (n : Nat) (x : dens group_place_1.ps) (c : pdens group_place_1.caps) : Vi.runC (group_place_1.C n) n f136 group_place_1.ps group_place_1.caps group_place_1.rs x c = some (group_place_1 x c) := by kernel_rfl
theorem group_place_1.sound (n : Nat) : SoundC prog 136 (group_place_1.e n) :=
  soundC_of_run (C := group_place_1.C n) (n := n) (group_place_1.ok n) func136 (by kernel_rfl) (by kernel_rfl) (fun x c r h => (group_place_1.eq n x c).trans h)

def group_place.rs : List RTy := [.data (.int .i64)]
def group_place.ps : List PTy := [.data (.slc TGroup), .data (.int .i64)]
noncomputable def group_place.e (n : Nat) : Ent := ⟨group_place.ps, group_place.rs, fun x => group_place n x.1 x.2⟩
noncomputable def group_place.C (n : Nat) : Ctx := { tab := tab, fts := fts, pts := pts, Γ := lookO [(100, slices_IndexFunc_Group.e n)], Γc := lookO [(136, group_place_1.e n)], Γs := lookO [], Γm := lookO [], Γo := lookO [], Γd := lookO [], ntmps := f87.ntmps, keep := Vi.look ([], []) [], pins := [], cold := [3] }
theorem group_place.ok (n : Nat) : CtxOk prog (group_place.C n) := ⟨types, ftsOk_, ptsOk_, (fns_cons (slices_IndexFunc_Group.sound n) fns_nil), (cls_cons (group_place_1.sound n) cls_nil), sqs_nil, ems_nil, mixed, ons_nil, des_nil⟩
theorem group_place.eq (n : Nat) (x : pdens group_place.ps) : Vi.run (group_place.C n) n f87 group_place.ps group_place.rs x = group_place n x.1 x.2 := by kernel_rfl
theorem group_place.sound (n : Nat) : SoundE prog 87 (group_place.e n) :=
  soundE_of_run (C := group_place.C n) (n := n) (group_place.ok n) func87 (by kernel_rfl) (by kernel_rfl) (fun x r h => (group_place.eq n x).trans h)

def group_bad.rs : List RTy := [.data TFault]
def group_bad.ps : List PTy := [.data (.int .i64)]
noncomputable def group_bad.e (n : Nat) : Ent := ⟨group_bad.ps, group_bad.rs, fun x => some (group_bad x)⟩
noncomputable def group_bad.C (n : Nat) : Ctx := { tab := tab, fts := fts, pts := pts, Γ := lookO [], Γc := lookO [], Γs := lookO [], Γm := lookO [], Γo := lookO [], Γd := lookO [], ntmps := f88.ntmps, keep := Vi.look ([], []) [], pins := [] }
theorem group_bad.ok (n : Nat) : CtxOk prog (group_bad.C n) := ⟨types, ftsOk_, ptsOk_, fns_nil, cls_nil, sqs_nil, ems_nil, mixed, ons_nil, des_nil⟩
theorem group_bad.eq (n : Nat) (x : pdens group_bad.ps) : Vi.run (group_bad.C n) n f88 group_bad.ps group_bad.rs x = some (group_bad x) := by kernel_rfl
theorem group_bad.sound (n : Nat) : SoundE prog 88 (group_bad.e n) :=
  soundE_of_run (C := group_bad.C n) (n := n) (group_bad.ok n) func88 (by kernel_rfl) (by kernel_rfl) (fun x r h => (group_bad.eq n x).trans h)

def acts_of_int.rs : List RTy := [.fresh (.int .i64)]
def acts_of_int.ps : List PTy := [.data (.slc TAction), .data (.int .i64), .fnp [TAction] [(.int .i64)]]
noncomputable def acts_of_int.e (n : Nat) : Ent := ⟨acts_of_int.ps, acts_of_int.rs, fun x => acts_of_int n x.1 x.2.1 x.2.2⟩
noncomputable def acts_of_int.C (n : Nat) : Ctx := { tab := tab, fts := fts, pts := pts, Γ := lookO [], Γc := lookO [], Γs := lookO [], Γm := lookO [], Γo := lookO [], Γd := lookO [], ntmps := f144.ntmps, keep := Vi.look ([], []) [(3, ([1, 2, 7, 10, 11, 12], []))], pins := [] }
theorem acts_of_int.ok (n : Nat) : CtxOk prog (acts_of_int.C n) := ⟨types, ftsOk_, ptsOk_, fns_nil, cls_nil, sqs_nil, ems_nil, mixed, ons_nil, des_nil⟩
noncomputable def acts_of_int.code : Code := bodyOf f144
theorem acts_of_int.l0.step (n : Nat) (m0 : Nat) (kind_1 : Int) (what_1 : (Action → Option Int)) (out : (List Int)) (v10 : (List Action)) (v11 : Int) (v12 : Int) : it (EmR.no _) (acts_of_int.C n) n (Code.go acts_of_int.code [1, 1, 0, 1, 0, 0]) (blockK 0 (seqK (EmR.no _) (acts_of_int.C n) n (Code.go acts_of_int.code [1, 1, 1]) (bodyK (acts_of_int.C n) f144 acts_of_int.rs))) (m0 + 1) ⟨[(1, .dat (.int .i64) kind_1), (2, .fn [TAction] [(.int .i64)] what_1), (7, .lst (.tip 100007 0) (.int .i64) out), (10, .dat (.slc TAction) v10), (11, .dat (.int .i64) v11), (12, .dat (.int .i64) v12)], [(100007, .tok 0)]⟩ = acts_of_int.s0 n (fun (out' : (List Int)) (v12' : Int) => it (EmR.no _) (acts_of_int.C n) n (Code.go acts_of_int.code [1, 1, 0, 1, 0, 0]) (blockK 0 (seqK (EmR.no _) (acts_of_int.C n) n (Code.go acts_of_int.code [1, 1, 1]) (bodyK (acts_of_int.C n) f144 acts_of_int.rs))) m0 ⟨[(1, .dat (.int .i64) kind_1), (2, .fn [TAction] [(.int .i64)] what_1), (7, .lst (.tip 100007 0) (.int .i64) (out')), (10, .dat (.slc TAction) v10), (11, .dat (.int .i64) v11), (12, .dat (.int .i64) (v12'))], [(100007, .tok 0)]⟩) kind_1 what_1 out v10 v11 v12 := by kernel_rfl
theorem acts_of_int.l0.eq (n : Nat) (kind_1 : Int) (what_1 : (Action → Option Int)) (v10 : (List Action)) (v11 : Int) : ∀ (m0 : Nat) (out : (List Int)) (v12 : Int), it (EmR.no _) (acts_of_int.C n) n (Code.go acts_of_int.code [1, 1, 0, 1, 0, 0]) (blockK 0 (seqK (EmR.no _) (acts_of_int.C n) n (Code.go acts_of_int.code [1, 1, 1]) (bodyK (acts_of_int.C n) f144 acts_of_int.rs))) m0 ⟨[(1, .dat (.int .i64) kind_1), (2, .fn [TAction] [(.int .i64)] what_1), (7, .lst (.tip 100007 0) (.int .i64) out), (10, .dat (.slc TAction) v10), (11, .dat (.int .i64) v11), (12, .dat (.int .i64) v12)], [(100007, .tok 0)]⟩ = acts_of_int.l0 n kind_1 what_1 v10 v11 m0 out v12
  | 0, _, _ => rfl
  | m0 + 1, out, v12 =>
    (acts_of_int.l0.step n m0 kind_1 what_1 out v10 v11 v12).trans (congr1 (fun k0 => acts_of_int.s0 n k0 kind_1 what_1 out v10 v11 v12) (funext fun out' => funext fun v12' => acts_of_int.l0.eq n kind_1 what_1 v10 v11 m0 out' v12'))
theorem acts_of_int.run0 (n : Nat) (x : pdens acts_of_int.ps) : Vi.run (acts_of_int.C n) n f144 acts_of_int.ps acts_of_int.rs x = acts_of_int.s n (fun (kind_1' : Int) (what_1' : (Action → Option Int)) (out' : (List Int)) (v10' : (List Action)) (v11' : Int) (v12' : Int) => it (EmR.no _) (acts_of_int.C n) n (Code.go acts_of_int.code [1, 1, 0, 1, 0, 0]) (blockK 0 (seqK (EmR.no _) (acts_of_int.C n) n (Code.go acts_of_int.code [1, 1, 1]) (bodyK (acts_of_int.C n) f144 acts_of_int.rs))) n ⟨[(1, .dat (.int .i64) (kind_1')), (2, .fn [TAction] [(.int .i64)] (what_1')), (7, .lst (.tip 100007 0) (.int .i64) (out')), (10, .dat (.slc TAction) (v10')), (11, .dat (.int .i64) (v11')), (12, .dat (.int .i64) (v12'))], [(100007, .tok 0)]⟩) x.1 x.2.1 x.2.2 := by kernel_rfl
theorem acts_of_int.eq (n : Nat) (x : pdens acts_of_int.ps) : Vi.run (acts_of_int.C n) n f144 acts_of_int.ps acts_of_int.rs x = acts_of_int n x.1 x.2.1 x.2.2 :=
  (acts_of_int.run0 n x).trans (congr1 (fun k0 => acts_of_int.s n k0 x.1 x.2.1 x.2.2) (funext fun kind_1' => funext fun what_1' => funext fun out' => funext fun v10' => funext fun v11' => funext fun v12' => acts_of_int.l0.eq n kind_1' what_1' v10' v11' n out' v12'))
theorem acts_of_int.sound (n : Nat) : SoundE prog 144 (acts_of_int.e n) :=
  soundE_of_run (C := acts_of_int.C n) (n := n) (acts_of_int.ok n) func144 (by kernel_rfl) (by kernel_rfl) (fun x r h => (acts_of_int.eq n x).trans h)

def acts_Groups_1_c.rs : List Ty := [(.int .i64)]
def acts_Groups_1_c.ps : List Ty := [TAction]
def acts_Groups_1_c.caps : List PTy := []
noncomputable def acts_Groups_1_c.e (n : Nat) : Cl := ⟨acts_Groups_1_c.ps, acts_Groups_1_c.caps, acts_Groups_1_c.rs, fun x c => some (acts_Groups_1_c x)⟩
noncomputable def acts_Groups_1_c.C (n : Nat) : Ctx := { tab := tab, fts := fts, pts := pts, Γ := lookO [], Γc := lookO [], Γs := lookO [], Γm := lookO [], Γo := lookO [], Γd := lookO [], ntmps := f145.ntmps, keep := Vi.look ([], []) [], pins := [] }
theorem acts_Groups_1_c.ok (n : Nat) : CtxOk prog (acts_Groups_1_c.C n) := ⟨types, ftsOk_, ptsOk_, fns_nil, cls_nil, sqs_nil, ems_nil, mixed, ons_nil, des_nil⟩
theorem acts_Groups_1_c.eq (n : Nat) (x : dens acts_Groups_1_c.ps) (c : pdens acts_Groups_1_c.caps) : Vi.runC (acts_Groups_1_c.C n) n f145 acts_Groups_1_c.ps acts_Groups_1_c.caps acts_Groups_1_c.rs x c = some (acts_Groups_1_c x) := by kernel_rfl
theorem acts_Groups_1_c.sound (n : Nat) : SoundC prog 145 (acts_Groups_1_c.e n) :=
  soundC_of_run (C := acts_Groups_1_c.C n) (n := n) (acts_Groups_1_c.ok n) func145 (by kernel_rfl) (by kernel_rfl) (fun x c r h => (acts_Groups_1_c.eq n x c).trans h)

def acts_Groups.rs : List RTy := [.fresh (.int .i64)]
def acts_Groups.ps : List PTy := [.data (.slc TAction)]
noncomputable def acts_Groups.e (n : Nat) : Ent := ⟨acts_Groups.ps, acts_Groups.rs, fun x => acts_Groups n x⟩
noncomputable def acts_Groups.C (n : Nat) : Ctx := { tab := tab, fts := fts, pts := pts, Γ := lookO [(144, acts_of_int.e n)], Γc := lookO [(145, acts_Groups_1_c.e n)], Γs := lookO [], Γm := lookO [], Γo := lookO [], Γd := lookO [], ntmps := f98.ntmps, keep := Vi.look ([], []) [], pins := [] }
theorem acts_Groups.ok (n : Nat) : CtxOk prog (acts_Groups.C n) := ⟨types, ftsOk_, ptsOk_, (fns_cons (acts_of_int.sound n) fns_nil), (cls_cons (acts_Groups_1_c.sound n) cls_nil), sqs_nil, ems_nil, mixed, ons_nil, des_nil⟩
theorem acts_Groups.eq (n : Nat) (x : pdens acts_Groups.ps) : Vi.run (acts_Groups.C n) n f98 acts_Groups.ps acts_Groups.rs x = acts_Groups n x := by kernel_rfl
theorem acts_Groups.sound (n : Nat) : SoundE prog 98 (acts_Groups.e n) :=
  soundE_of_run (C := acts_Groups.C n) (n := n) (acts_Groups.ok n) func98 (by kernel_rfl) (by kernel_rfl) (fun x r h => (acts_Groups.eq n x).trans h)

def group_Names.rs : List RTy := [.fresh (.int .i64)]
def group_Names.ps : List PTy := [.data (.slc TBucket)]
noncomputable def group_Names.e (n : Nat) : Ent := ⟨group_Names.ps, group_Names.rs, fun x => group_Names n x⟩
noncomputable def group_Names.C (n : Nat) : Ctx := { tab := tab, fts := fts, pts := pts, Γ := lookO [(98, acts_Groups.e n)], Γc := lookO [], Γs := lookO [], Γm := lookO [], Γo := lookO [], Γd := lookO [], ntmps := f48.ntmps, keep := Vi.look ([], []) [(3, ([3, 6, 7, 8], []))], pins := [] }
theorem group_Names.ok (n : Nat) : CtxOk prog (group_Names.C n) := ⟨types, ftsOk_, ptsOk_, (fns_cons (acts_Groups.sound n) fns_nil), cls_nil, sqs_nil, ems_nil, mixed, ons_nil, des_nil⟩
noncomputable def group_Names.code : Code := bodyOf f48
theorem group_Names.l0.step (n : Nat) (m0 : Nat) (out : (List Int)) (v6 : (List Bucket)) (v7 : Int) (v8 : Int) : it (EmR.no _) (group_Names.C n) n (Code.go group_Names.code [1, 1, 0, 1, 0, 0]) (blockK 0 (seqK (EmR.no _) (group_Names.C n) n (Code.go group_Names.code [1, 1, 1]) (bodyK (group_Names.C n) f48 group_Names.rs))) (m0 + 1) ⟨[(3, .lst (.tip 100003 0) (.int .i64) out), (6, .dat (.slc TBucket) v6), (7, .dat (.int .i64) v7), (8, .dat (.int .i64) v8)], [(100003, .tok 0)]⟩ = group_Names.s0 n (fun (out' : (List Int)) (v8' : Int) => it (EmR.no _) (group_Names.C n) n (Code.go group_Names.code [1, 1, 0, 1, 0, 0]) (blockK 0 (seqK (EmR.no _) (group_Names.C n) n (Code.go group_Names.code [1, 1, 1]) (bodyK (group_Names.C n) f48 group_Names.rs))) m0 ⟨[(3, .lst (.tip 100003 0) (.int .i64) (out')), (6, .dat (.slc TBucket) v6), (7, .dat (.int .i64) v7), (8, .dat (.int .i64) (v8'))], [(100003, .tok 0)]⟩) out v6 v7 v8 := by kernel_rfl
theorem group_Names.l0.eq (n : Nat) (v6 : (List Bucket)) (v7 : Int) : ∀ (m0 : Nat) (out : (List Int)) (v8 : Int), it (EmR.no _) (group_Names.C n) n (Code.go group_Names.code [1, 1, 0, 1, 0, 0]) (blockK 0 (seqK (EmR.no _) (group_Names.C n) n (Code.go group_Names.code [1, 1, 1]) (bodyK (group_Names.C n) f48 group_Names.rs))) m0 ⟨[(3, .lst (.tip 100003 0) (.int .i64) out), (6, .dat (.slc TBucket) v6), (7, .dat (.int .i64) v7), (8, .dat (.int .i64) v8)], [(100003, .tok 0)]⟩ = group_Names.l0 n v6 v7 m0 out v8
  | 0, _, _ => rfl
  | m0 + 1, out, v8 =>
    (group_Names.l0.step n m0 out v6 v7 v8).trans (congr1 (fun k0 => group_Names.s0 n k0 out v6 v7 v8) (funext fun out' => funext fun v8' => group_Names.l0.eq n v6 v7 m0 out' v8'))
theorem group_Names.run0 (n : Nat) (x : pdens group_Names.ps) : Vi.run (group_Names.C n) n f48 group_Names.ps group_Names.rs x = group_Names.s n (fun (out' : (List Int)) (v6' : (List Bucket)) (v7' : Int) (v8' : Int) => it (EmR.no _) (group_Names.C n) n (Code.go group_Names.code [1, 1, 0, 1, 0, 0]) (blockK 0 (seqK (EmR.no _) (group_Names.C n) n (Code.go group_Names.code [1, 1, 1]) (bodyK (group_Names.C n) f48 group_Names.rs))) n ⟨[(3, .lst (.tip 100003 0) (.int .i64) (out')), (6, .dat (.slc TBucket) (v6')), (7, .dat (.int .i64) (v7')), (8, .dat (.int .i64) (v8'))], [(100003, .tok 0)]⟩) x := by kernel_rfl
theorem group_Names.eq (n : Nat) (x : pdens group_Names.ps) : Vi.run (group_Names.C n) n f48 group_Names.ps group_Names.rs x = group_Names n x :=
  (group_Names.run0 n x).trans (congr1 (fun k0 => group_Names.s n k0 x) (funext fun out' => funext fun v6' => funext fun v7' => funext fun v8' => group_Names.l0.eq n v6' v7' n out' v8'))
theorem group_Names.sound (n : Nat) : SoundE prog 48 (group_Names.e n) :=
  soundE_of_run (C := group_Names.C n) (n := n) (group_Names.ok n) func48 (by kernel_rfl) (by kernel_rfl) (fun x r h => (group_Names.eq n x).trans h)

def slices_Index_int.rs : List RTy := [.data (.int .i64)]
def slices_Index_int.ps : List PTy := [.data (.slc (.int .i64)), .data (.int .i64)]
noncomputable def slices_Index_int.e (n : Nat) : Ent := ⟨slices_Index_int.ps, slices_Index_int.rs, fun x => slices_Index_int n x.1 x.2⟩
noncomputable def slices_Index_int.C (n : Nat) : Ctx := { tab := tab, fts := fts, pts := pts, Γ := lookO [], Γc := lookO [], Γs := lookO [], Γm := lookO [], Γo := lookO [], Γd := lookO [], ntmps := f101.ntmps, keep := Vi.look ([], []) [(2, ([0, 1, 7, 8], []))], pins := [] }
theorem slices_Index_int.ok (n : Nat) : CtxOk prog (slices_Index_int.C n) := ⟨types, ftsOk_, ptsOk_, fns_nil, cls_nil, sqs_nil, ems_nil, mixed, ons_nil, des_nil⟩
noncomputable def slices_Index_int.code : Code := bodyOf f101
theorem slices_Index_int.l0.step (n : Nat) (m0 : Nat) (s_1 : (List Int)) (v_1 : Int) (v7 : Int) (v8 : Int) : it (EmR.no _) (slices_Index_int.C n) n (Code.go slices_Index_int.code [1, 0, 1, 0, 0]) (blockK 0 (seqK (EmR.no _) (slices_Index_int.C n) n (Code.go slices_Index_int.code [1, 1]) (bodyK (slices_Index_int.C n) f101 slices_Index_int.rs))) (m0 + 1) ⟨[(0, .dat (.slc (.int .i64)) s_1), (1, .dat (.int .i64) v_1), (7, .dat (.int .i64) v7), (8, .dat (.int .i64) v8)], []⟩ = slices_Index_int.s0 n (fun (v8' : Int) => it (EmR.no _) (slices_Index_int.C n) n (Code.go slices_Index_int.code [1, 0, 1, 0, 0]) (blockK 0 (seqK (EmR.no _) (slices_Index_int.C n) n (Code.go slices_Index_int.code [1, 1]) (bodyK (slices_Index_int.C n) f101 slices_Index_int.rs))) m0 ⟨[(0, .dat (.slc (.int .i64)) s_1), (1, .dat (.int .i64) v_1), (7, .dat (.int .i64) v7), (8, .dat (.int .i64) (v8'))], []⟩) s_1 v_1 v7 v8 := by kernel_rfl
theorem slices_Index_int.l0.eq (n : Nat) (s_1 : (List Int)) (v_1 : Int) (v7 : Int) : ∀ (m0 : Nat) (v8 : Int), it (EmR.no _) (slices_Index_int.C n) n (Code.go slices_Index_int.code [1, 0, 1, 0, 0]) (blockK 0 (seqK (EmR.no _) (slices_Index_int.C n) n (Code.go slices_Index_int.code [1, 1]) (bodyK (slices_Index_int.C n) f101 slices_Index_int.rs))) m0 ⟨[(0, .dat (.slc (.int .i64)) s_1), (1, .dat (.int .i64) v_1), (7, .dat (.int .i64) v7), (8, .dat (.int .i64) v8)], []⟩ = slices_Index_int.l0 n s_1 v_1 v7 m0 v8
  | 0, _ => rfl
  | m0 + 1, v8 =>
    (slices_Index_int.l0.step n m0 s_1 v_1 v7 v8).trans (congr1 (fun k0 => slices_Index_int.s0 n k0 s_1 v_1 v7 v8) (funext fun v8' => slices_Index_int.l0.eq n s_1 v_1 v7 m0 v8'))
theorem slices_Index_int.run0 (n : Nat) (x : pdens slices_Index_int.ps) : Vi.run (slices_Index_int.C n) n f101 slices_Index_int.ps slices_Index_int.rs x = slices_Index_int.s n (fun (s_1' : (List Int)) (v_1' : Int) (v7' : Int) (v8' : Int) => it (EmR.no _) (slices_Index_int.C n) n (Code.go slices_Index_int.code [1, 0, 1, 0, 0]) (blockK 0 (seqK (EmR.no _) (slices_Index_int.C n) n (Code.go slices_Index_int.code [1, 1]) (bodyK (slices_Index_int.C n) f101 slices_Index_int.rs))) n ⟨[(0, .dat (.slc (.int .i64)) (s_1')), (1, .dat (.int .i64) (v_1')), (7, .dat (.int .i64) (v7')), (8, .dat (.int .i64) (v8'))], []⟩) x.1 x.2 := by kernel_rfl
theorem slices_Index_int.eq (n : Nat) (x : pdens slices_Index_int.ps) : Vi.run (slices_Index_int.C n) n f101 slices_Index_int.ps slices_Index_int.rs x = slices_Index_int n x.1 x.2 :=
  (slices_Index_int.run0 n x).trans (congr1 (fun k0 => slices_Index_int.s n k0 x.1 x.2) (funext fun s_1' => funext fun v_1' => funext fun v7' => funext fun v8' => slices_Index_int.l0.eq n s_1' v_1' v7' n v8'))
theorem slices_Index_int.sound (n : Nat) : SoundE prog 101 (slices_Index_int.e n) :=
  soundE_of_run (C := slices_Index_int.C n) (n := n) (slices_Index_int.ok n) func101 (by kernel_rfl) (by kernel_rfl) (fun x r h => (slices_Index_int.eq n x).trans h)

def slices_Contains_int.rs : List RTy := [.data .bool]
def slices_Contains_int.ps : List PTy := [.data (.slc (.int .i64)), .data (.int .i64)]
noncomputable def slices_Contains_int.e (n : Nat) : Ent := ⟨slices_Contains_int.ps, slices_Contains_int.rs, fun x => slices_Contains_int n x.1 x.2⟩
noncomputable def slices_Contains_int.C (n : Nat) : Ctx := { tab := tab, fts := fts, pts := pts, Γ := lookO [(101, slices_Index_int.e n)], Γc := lookO [], Γs := lookO [], Γm := lookO [], Γo := lookO [], Γd := lookO [], ntmps := f52.ntmps, keep := Vi.look ([], []) [], pins := [] }
theorem slices_Contains_int.ok (n : Nat) : CtxOk prog (slices_Contains_int.C n) := ⟨types, ftsOk_, ptsOk_, (fns_cons (slices_Index_int.sound n) fns_nil), cls_nil, sqs_nil, ems_nil, mixed, ons_nil, des_nil⟩
theorem slices_Contains_int.eq (n : Nat) (x : pdens slices_Contains_int.ps) : Vi.run (slices_Contains_int.C n) n f52 slices_Contains_int.ps slices_Contains_int.rs x = slices_Contains_int n x.1 x.2 := by kernel_rfl
theorem slices_Contains_int.sound (n : Nat) : SoundE prog 52 (slices_Contains_int.e n) :=
  soundE_of_run (C := slices_Contains_int.C n) (n := n) (slices_Contains_int.ok n) func52 (by kernel_rfl) (by kernel_rfl) (fun x r h => (slices_Contains_int.eq n x).trans h)

def group_drop_1.rs : List Ty := [.bool]
def group_drop_1.ps : List Ty := [TGroup]
def group_drop_1.caps : List PTy := [.cptr (.int .i64)]
noncomputable def group_drop_1.e (n : Nat) : Cl := ⟨group_drop_1.ps, group_drop_1.caps, group_drop_1.rs, fun x c => group_drop_1 n x c⟩
noncomputable def group_drop_1.C (n : Nat) : Ctx := { tab := tab, fts := fts, pts := pts, Γ := lookO [(48, group_Names.e n), (52, slices_Contains_int.e n)], Γc := lookO [], Γs := lookO [], Γm := lookO [], Γo := lookO [], Γd := lookO [], ntmps := f137.ntmps, keep := Vi.look ([], []) [], pins := [] }
theorem group_drop_1.ok (n : Nat) : CtxOk prog (group_drop_1.C n) := ⟨types, ftsOk_, ptsOk_, (fns_cons (group_Names.sound n) (fns_cons (slices_Contains_int.sound n) fns_nil)), cls_nil, sqs_nil, ems_nil, mixed, ons_nil, des_nil⟩
theorem group_drop_1.eq (n : Nat) (x : dens group_drop_1.ps) (c : pdens group_drop_1.caps) : Vi.runC (group_drop_1.C n) n f137 group_drop_1.ps group_drop_1.caps group_drop_1.rs x c = group_drop_1 n x c := by kernel_rfl
theorem group_drop_1.sound (n : Nat) : SoundC prog 137 (group_drop_1.e n) :=
  soundC_of_run (C := group_drop_1.C n) (n := n) (group_drop_1.ok n) func137 (by kernel_rfl) (by kernel_rfl) (fun x c r h => (group_drop_1.eq n x c).trans h)

def group_numbered.rs : List RTy := [.data .bool]
def group_numbered.ps : List PTy := [.data (.int .i64)]
noncomputable def group_numbered.e (n : Nat) : Ent := ⟨group_numbered.ps, group_numbered.rs, fun x => some (group_numbered x)⟩
noncomputable def group_numbered.C (n : Nat) : Ctx := { tab := tab, fts := fts, pts := pts, Γ := lookO [], Γc := lookO [], Γs := lookO [], Γm := lookO [], Γo := lookO [], Γd := lookO [], ntmps := f90.ntmps, keep := Vi.look ([], []) [], pins := [] }
theorem group_numbered.ok (n : Nat) : CtxOk prog (group_numbered.C n) := ⟨types, ftsOk_, ptsOk_, fns_nil, cls_nil, sqs_nil, ems_nil, mixed, ons_nil, des_nil⟩
theorem group_numbered.run0 (n : Nat) (x : pdens group_numbered.ps) : Vi.run (group_numbered.C n) n f90 group_numbered.ps group_numbered.rs x = group_numbered.o x := by kernel_rfl
theorem group_numbered.eq (n : Nat) (x : pdens group_numbered.ps) : Vi.run (group_numbered.C n) n f90 group_numbered.ps group_numbered.rs x = some (group_numbered x) := (group_numbered.run0 n x).trans (group_numbered.o_eq _)
theorem group_numbered.sound (n : Nat) : SoundE prog 90 (group_numbered.e n) :=
  soundE_of_run (C := group_numbered.C n) (n := n) (group_numbered.ok n) func90 (by kernel_rfl) (by kernel_rfl) (fun x r h => (group_numbered.eq n x).trans h)

def slices_Clone_Group.rs : List RTy := [.own TGroup]
def slices_Clone_Group.ps : List PTy := [.data (.slc TGroup)]
noncomputable def slices_Clone_Group.e (n : Nat) : Ent := ⟨slices_Clone_Group.ps, slices_Clone_Group.rs, fun x => slices_Clone_Group x⟩
noncomputable def slices_Clone_Group.C (n : Nat) : Ctx := { tab := tab, fts := fts, pts := pts, Γ := lookO [], Γc := lookO [], Γs := lookO [], Γm := lookO [], Γo := lookO [], Γd := lookO [], ntmps := f54.ntmps, keep := Vi.look ([], []) [], pins := [], owns := [7] }
theorem slices_Clone_Group.ok (n : Nat) : CtxOk prog (slices_Clone_Group.C n) := ⟨types, ftsOk_, ptsOk_, fns_nil, cls_nil, sqs_nil, ems_nil, mixed, ons_nil, des_nil⟩
theorem slices_Clone_Group.sound (n : Nat) : SoundE prog 54 (slices_Clone_Group.e n) :=
  soundE_of_nil (C := slices_Clone_Group.C n) (n := n) (slices_Clone_Group.ok n) func54 (by kernel_rfl) (by kernel_rfl) (by kernel_rfl)
    (fun r h => (show runS (slices_Clone_Group.C n) n f54 [(0, .nil)] slices_Clone_Group.rs = slices_Clone_Group [] by kernel_rfl).trans h)
    (fun x r h => (show runS (slices_Clone_Group.C n) n f54 [(0, .lst .nn TGroup x)] slices_Clone_Group.rs = slices_Clone_Group x by kernel_rfl).trans h)

def slices_Clone_Bucket.rs : List RTy := [.own TBucket]
def slices_Clone_Bucket.ps : List PTy := [.data (.slc TBucket)]
noncomputable def slices_Clone_Bucket.e (n : Nat) : Ent := ⟨slices_Clone_Bucket.ps, slices_Clone_Bucket.rs, fun x => slices_Clone_Bucket x⟩
noncomputable def slices_Clone_Bucket.C (n : Nat) : Ctx := { tab := tab, fts := fts, pts := pts, Γ := lookO [], Γc := lookO [], Γs := lookO [], Γm := lookO [], Γo := lookO [], Γd := lookO [], ntmps := f165.ntmps, keep := Vi.look ([], []) [], pins := [], owns := [7] }
theorem slices_Clone_Bucket.ok (n : Nat) : CtxOk prog (slices_Clone_Bucket.C n) := ⟨types, ftsOk_, ptsOk_, fns_nil, cls_nil, sqs_nil, ems_nil, mixed, ons_nil, des_nil⟩
theorem slices_Clone_Bucket.sound (n : Nat) : SoundE prog 165 (slices_Clone_Bucket.e n) :=
  soundE_of_nil (C := slices_Clone_Bucket.C n) (n := n) (slices_Clone_Bucket.ok n) func165 (by kernel_rfl) (by kernel_rfl) (by kernel_rfl)
    (fun r h => (show runS (slices_Clone_Bucket.C n) n f165 [(0, .nil)] slices_Clone_Bucket.rs = slices_Clone_Bucket [] by kernel_rfl).trans h)
    (fun x r h => (show runS (slices_Clone_Bucket.C n) n f165 [(0, .lst .nn TBucket x)] slices_Clone_Bucket.rs = slices_Clone_Bucket x by kernel_rfl).trans h)

def slices_Clone_Action.rs : List RTy := [.own TAction]
def slices_Clone_Action.ps : List PTy := [.data (.slc TAction)]
noncomputable def slices_Clone_Action.e (n : Nat) : Ent := ⟨slices_Clone_Action.ps, slices_Clone_Action.rs, fun x => slices_Clone_Action x⟩
noncomputable def slices_Clone_Action.C (n : Nat) : Ctx := { tab := tab, fts := fts, pts := pts, Γ := lookO [], Γc := lookO [], Γs := lookO [], Γm := lookO [], Γo := lookO [], Γd := lookO [], ntmps := f166.ntmps, keep := Vi.look ([], []) [], pins := [], owns := [7] }
theorem slices_Clone_Action.ok (n : Nat) : CtxOk prog (slices_Clone_Action.C n) := ⟨types, ftsOk_, ptsOk_, fns_nil, cls_nil, sqs_nil, ems_nil, mixed, ons_nil, des_nil⟩
theorem slices_Clone_Action.sound (n : Nat) : SoundE prog 166 (slices_Clone_Action.e n) :=
  soundE_of_nil (C := slices_Clone_Action.C n) (n := n) (slices_Clone_Action.ok n) func166 (by kernel_rfl) (by kernel_rfl) (by kernel_rfl)
    (fun r h => (show runS (slices_Clone_Action.C n) n f166 [(0, .nil)] slices_Clone_Action.rs = slices_Clone_Action [] by kernel_rfl).trans h)
    (fun x r h => (show runS (slices_Clone_Action.C n) n f166 [(0, .lst .nn TAction x)] slices_Clone_Action.rs = slices_Clone_Action x by kernel_rfl).trans h)

def group_copies.rs : List RTy := [.fresh TBucket]
def group_copies.ps : List PTy := [.data (.slc TBucket)]
noncomputable def group_copies.e (n : Nat) : Ent := ⟨group_copies.ps, group_copies.rs, fun x => group_copies n x⟩
noncomputable def group_copies.C (n : Nat) : Ctx := { tab := tab, fts := fts, pts := pts, Γ := lookO [(165, slices_Clone_Bucket.e n), (166, slices_Clone_Action.e n)], Γc := lookO [], Γs := lookO [], Γm := lookO [], Γo := lookO [], Γd := lookO [], ntmps := f139.ntmps, keep := Vi.look ([], []) [(3, ([3, 8, 9], [6]))], pins := [] }
theorem group_copies.ok (n : Nat) : CtxOk prog (group_copies.C n) := ⟨types, ftsOk_, ptsOk_, (fns_cons (slices_Clone_Bucket.sound n) (fns_cons (slices_Clone_Action.sound n) fns_nil)), cls_nil, sqs_nil, ems_nil, mixed, ons_nil, des_nil⟩
noncomputable def group_copies.code : Code := bodyOf f139
theorem group_copies.l0.step (n : Nat) (m0 : Nat) (v8 : Int) (v9 : Int) (v6 : (List Bucket)) : it (EmR.no _) (group_copies.C n) n (Code.go group_copies.code [1, 1, 0, 1, 0, 0]) (blockK 0 (seqK (EmR.no _) (group_copies.C n) n (Code.go group_copies.code [1, 1, 1]) (bodyK (group_copies.C n) f139 group_copies.rs))) (m0 + 1) ⟨[(3, .vec 6 0 TBucket), (8, .dat (.int .i64) v8), (9, .dat (.int .i64) v9)], [(6, .box 0 false (.row TBucket v6))]⟩ = group_copies.s0 n (fun (v9' : Int) (v6' : (List Bucket)) => it (EmR.no _) (group_copies.C n) n (Code.go group_copies.code [1, 1, 0, 1, 0, 0]) (blockK 0 (seqK (EmR.no _) (group_copies.C n) n (Code.go group_copies.code [1, 1, 1]) (bodyK (group_copies.C n) f139 group_copies.rs))) m0 ⟨[(3, .vec 6 0 TBucket), (8, .dat (.int .i64) v8), (9, .dat (.int .i64) (v9'))], [(6, .box 0 false (.row TBucket (v6')))]⟩) v8 v9 v6 := by kernel_rfl
theorem group_copies.l0.eq (n : Nat) (v8 : Int) : ∀ (m0 : Nat) (v9 : Int) (v6 : (List Bucket)), it (EmR.no _) (group_copies.C n) n (Code.go group_copies.code [1, 1, 0, 1, 0, 0]) (blockK 0 (seqK (EmR.no _) (group_copies.C n) n (Code.go group_copies.code [1, 1, 1]) (bodyK (group_copies.C n) f139 group_copies.rs))) m0 ⟨[(3, .vec 6 0 TBucket), (8, .dat (.int .i64) v8), (9, .dat (.int .i64) v9)], [(6, .box 0 false (.row TBucket v6))]⟩ = group_copies.l0 n v8 m0 v9 v6
  | 0, _, _ => rfl
  | m0 + 1, v9, v6 =>
    (group_copies.l0.step n m0 v8 v9 v6).trans (congr1 (fun k0 => group_copies.s0 n k0 v8 v9 v6) (funext fun v9' => funext fun v6' => group_copies.l0.eq n v8 m0 v9' v6'))
theorem group_copies.run0 (n : Nat) (x : pdens group_copies.ps) : Vi.run (group_copies.C n) n f139 group_copies.ps group_copies.rs x = group_copies.s n (fun (v8' : Int) (v9' : Int) (v6' : (List Bucket)) => it (EmR.no _) (group_copies.C n) n (Code.go group_copies.code [1, 1, 0, 1, 0, 0]) (blockK 0 (seqK (EmR.no _) (group_copies.C n) n (Code.go group_copies.code [1, 1, 1]) (bodyK (group_copies.C n) f139 group_copies.rs))) n ⟨[(3, .vec 6 0 TBucket), (8, .dat (.int .i64) (v8')), (9, .dat (.int .i64) (v9'))], [(6, .box 0 false (.row TBucket (v6')))]⟩) x := by kernel_rfl
theorem group_copies.eq (n : Nat) (x : pdens group_copies.ps) : Vi.run (group_copies.C n) n f139 group_copies.ps group_copies.rs x = group_copies n x :=
  (group_copies.run0 n x).trans (congr1 (fun k0 => group_copies.s n k0 x) (funext fun v8' => funext fun v9' => funext fun v6' => group_copies.l0.eq n v8' n v9' v6'))
theorem group_copies.sound (n : Nat) : SoundE prog 139 (group_copies.e n) :=
  soundE_of_run (C := group_copies.C n) (n := n) (group_copies.ok n) func139 (by kernel_rfl) (by kernel_rfl) (fun x r h => (group_copies.eq n x).trans h)

def group_fresh.rs : List RTy := [.own TGroup]
def group_fresh.ps : List PTy := [.data (.slc TGroup)]
noncomputable def group_fresh.e (n : Nat) : Ent := ⟨group_fresh.ps, group_fresh.rs, fun x => group_fresh n x⟩
noncomputable def group_fresh.C (n : Nat) : Ctx := { tab := tab, fts := fts, pts := pts, Γ := lookO [(54, slices_Clone_Group.e n), (139, group_copies.e n)], Γc := lookO [], Γs := lookO [], Γm := lookO [], Γo := lookO [], Γd := lookO [], ntmps := f99.ntmps, keep := Vi.look ([], []) [(3, ([3, 8, 9], [6]))], pins := [] }
theorem group_fresh.ok (n : Nat) : CtxOk prog (group_fresh.C n) := ⟨types, ftsOk_, ptsOk_, (fns_cons (slices_Clone_Group.sound n) (fns_cons (group_copies.sound n) fns_nil)), cls_nil, sqs_nil, ems_nil, mixed, ons_nil, des_nil⟩
noncomputable def group_fresh.code : Code := bodyOf f99
theorem group_fresh.l0.step (n : Nat) (m0 : Nat) (v8 : Int) (v9 : Int) (v6 : (List Group)) : it (EmR.no _) (group_fresh.C n) n (Code.go group_fresh.code [1, 1, 0, 1, 0, 0]) (blockK 0 (seqK (EmR.no _) (group_fresh.C n) n (Code.go group_fresh.code [1, 1, 1]) (bodyK (group_fresh.C n) f99 group_fresh.rs))) (m0 + 1) ⟨[(3, .vec 6 0 TGroup), (8, .dat (.int .i64) v8), (9, .dat (.int .i64) v9)], [(6, .box 0 false (.row TGroup v6))]⟩ = group_fresh.s0 n (fun (v9' : Int) (v6' : (List Group)) => it (EmR.no _) (group_fresh.C n) n (Code.go group_fresh.code [1, 1, 0, 1, 0, 0]) (blockK 0 (seqK (EmR.no _) (group_fresh.C n) n (Code.go group_fresh.code [1, 1, 1]) (bodyK (group_fresh.C n) f99 group_fresh.rs))) m0 ⟨[(3, .vec 6 0 TGroup), (8, .dat (.int .i64) v8), (9, .dat (.int .i64) (v9'))], [(6, .box 0 false (.row TGroup (v6')))]⟩) v8 v9 v6 := by kernel_rfl
theorem group_fresh.l0.eq (n : Nat) (v8 : Int) : ∀ (m0 : Nat) (v9 : Int) (v6 : (List Group)), it (EmR.no _) (group_fresh.C n) n (Code.go group_fresh.code [1, 1, 0, 1, 0, 0]) (blockK 0 (seqK (EmR.no _) (group_fresh.C n) n (Code.go group_fresh.code [1, 1, 1]) (bodyK (group_fresh.C n) f99 group_fresh.rs))) m0 ⟨[(3, .vec 6 0 TGroup), (8, .dat (.int .i64) v8), (9, .dat (.int .i64) v9)], [(6, .box 0 false (.row TGroup v6))]⟩ = group_fresh.l0 n v8 m0 v9 v6
  | 0, _, _ => rfl
  | m0 + 1, v9, v6 =>
    (group_fresh.l0.step n m0 v8 v9 v6).trans (congr1 (fun k0 => group_fresh.s0 n k0 v8 v9 v6) (funext fun v9' => funext fun v6' => group_fresh.l0.eq n v8 m0 v9' v6'))
theorem group_fresh.run0 (n : Nat) (x : pdens group_fresh.ps) : Vi.run (group_fresh.C n) n f99 group_fresh.ps group_fresh.rs x = group_fresh.s n (fun (v8' : Int) (v9' : Int) (v6' : (List Group)) => it (EmR.no _) (group_fresh.C n) n (Code.go group_fresh.code [1, 1, 0, 1, 0, 0]) (blockK 0 (seqK (EmR.no _) (group_fresh.C n) n (Code.go group_fresh.code [1, 1, 1]) (bodyK (group_fresh.C n) f99 group_fresh.rs))) n ⟨[(3, .vec 6 0 TGroup), (8, .dat (.int .i64) (v8')), (9, .dat (.int .i64) (v9'))], [(6, .box 0 false (.row TGroup (v6')))]⟩) x := by kernel_rfl
theorem group_fresh.eq (n : Nat) (x : pdens group_fresh.ps) : Vi.run (group_fresh.C n) n f99 group_fresh.ps group_fresh.rs x = group_fresh n x :=
  (group_fresh.run0 n x).trans (congr1 (fun k0 => group_fresh.s n k0 x) (funext fun v8' => funext fun v9' => funext fun v6' => group_fresh.l0.eq n v8' n v9' v6'))
theorem group_fresh.sound (n : Nat) : SoundE prog 99 (group_fresh.e n) :=
  soundE_of_run (C := group_fresh.C n) (n := n) (group_fresh.ok n) func99 (by kernel_rfl) (by kernel_rfl) (fun x r h => (group_fresh.eq n x).trans h)

def group_drop_2.rs : List Ty := [.bool]
def group_drop_2.ps : List Ty := [TGroup]
def group_drop_2.caps : List PTy := [.cptr (.int .i64)]
noncomputable def group_drop_2.e (n : Nat) : Cl := ⟨group_drop_2.ps, group_drop_2.caps, group_drop_2.rs, fun x c => some (group_drop_2 x c)⟩
noncomputable def group_drop_2.C (n : Nat) : Ctx := { tab := tab, fts := fts, pts := pts, Γ := lookO [], Γc := lookO [], Γs := lookO [], Γm := lookO [], Γo := lookO [], Γd := lookO [], ntmps := f138.ntmps, keep := Vi.look ([], []) [], pins := [] }
theorem group_drop_2.ok (n : Nat) : CtxOk prog (group_drop_2.C n) := ⟨types, ftsOk_, ptsOk_, fns_nil, cls_nil, sqs_nil, ems_nil, mixed, ons_nil, des_nil⟩
theorem group_drop_2.eq (n : Nat) (x : dens group_drop_2.ps) (c : pdens group_drop_2.caps) : Vi.runC (group_drop_2.C n) n f138 group_drop_2.ps group_drop_2.caps group_drop_2.rs x c = some (group_drop_2 x c) := by kernel_rfl
theorem group_drop_2.sound (n : Nat) : SoundC prog 138 (group_drop_2.e n) :=
  soundC_of_run (C := group_drop_2.C n) (n := n) (group_drop_2.ok n) func138 (by kernel_rfl) (by kernel_rfl) (fun x c r h => (group_drop_2.eq n x c).trans h)

def slices_DeleteFunc_Group.rs : List RTy := [.data (.slc TGroup)]
def slices_DeleteFunc_Group.ps : List PTy := [.fnp [TGroup] [.bool]]
noncomputable def slices_DeleteFunc_Group.e (n : Nat) : De := ⟨TGroup, slices_DeleteFunc_Group.ps, slices_DeleteFunc_Group.rs, fun y x => slices_DeleteFunc_Group n y x⟩
noncomputable def slices_DeleteFunc_Group.C (n : Nat) : Ctx := { tab := tab, fts := fts, pts := pts, Γ := lookO [(100, slices_IndexFunc_Group.e n)], Γc := lookO [], Γs := lookO [], Γm := lookO [], Γo := lookO [], Γd := lookO [], ntmps := f53.ntmps, keep := Vi.look ([], []) [(5, ([0, 1, 5, 6], [0]))], pins := [], tails := [38] }
theorem slices_DeleteFunc_Group.ok (n : Nat) : CtxOk prog (slices_DeleteFunc_Group.C n) := ⟨types, ftsOk_, ptsOk_, (fns_cons (slices_IndexFunc_Group.sound n) fns_nil), cls_nil, sqs_nil, ems_nil, mixed, ons_nil, des_nil⟩
noncomputable def slices_DeleteFunc_Group.code : Code := bodyOf f53
theorem slices_DeleteFunc_Group.l0.step (n : Nat) (m0 : Nat) (del_1 : (Group → Option Bool)) (i : Int) (j : Int) (s_1 : (List Group)) : it (EmR.no _) (slices_DeleteFunc_Group.C n) n (Code.go slices_DeleteFunc_Group.code [1, 1, 1, 0, 1, 0, 0]) (blockK 0 (seqK (EmR.no _) (slices_DeleteFunc_Group.C n) n (Code.go slices_DeleteFunc_Group.code [1, 1, 1, 1]) (bodyK (slices_DeleteFunc_Group.C n) f53 slices_DeleteFunc_Group.rs))) (m0 + 1) ⟨[(0, .vec 0 0 TGroup), (1, .fn [TGroup] [.bool] del_1), (5, .dat (.int .i64) i), (6, .dat (.int .i64) j)], [(0, .box 0 false (.row TGroup s_1))]⟩ = slices_DeleteFunc_Group.s0 n (fun (i' : Int) (j' : Int) (s_1' : (List Group)) => it (EmR.no _) (slices_DeleteFunc_Group.C n) n (Code.go slices_DeleteFunc_Group.code [1, 1, 1, 0, 1, 0, 0]) (blockK 0 (seqK (EmR.no _) (slices_DeleteFunc_Group.C n) n (Code.go slices_DeleteFunc_Group.code [1, 1, 1, 1]) (bodyK (slices_DeleteFunc_Group.C n) f53 slices_DeleteFunc_Group.rs))) m0 ⟨[(0, .vec 0 0 TGroup), (1, .fn [TGroup] [.bool] del_1), (5, .dat (.int .i64) (i')), (6, .dat (.int .i64) (j'))], [(0, .box 0 false (.row TGroup (s_1')))]⟩) del_1 i j s_1 := by kernel_rfl
theorem slices_DeleteFunc_Group.l0.eq (n : Nat) (del_1 : (Group → Option Bool)) : ∀ (m0 : Nat) (i : Int) (j : Int) (s_1 : (List Group)), it (EmR.no _) (slices_DeleteFunc_Group.C n) n (Code.go slices_DeleteFunc_Group.code [1, 1, 1, 0, 1, 0, 0]) (blockK 0 (seqK (EmR.no _) (slices_DeleteFunc_Group.C n) n (Code.go slices_DeleteFunc_Group.code [1, 1, 1, 1]) (bodyK (slices_DeleteFunc_Group.C n) f53 slices_DeleteFunc_Group.rs))) m0 ⟨[(0, .vec 0 0 TGroup), (1, .fn [TGroup] [.bool] del_1), (5, .dat (.int .i64) i), (6, .dat (.int .i64) j)], [(0, .box 0 false (.row TGroup s_1))]⟩ = slices_DeleteFunc_Group.l0 n del_1 m0 i j s_1
  | 0, _, _, _ => rfl
  | m0 + 1, i, j, s_1 =>
    (slices_DeleteFunc_Group.l0.step n m0 del_1 i j s_1).trans (congr1 (fun k0 => slices_DeleteFunc_Group.s0 n k0 del_1 i j s_1) (funext fun i' => funext fun j' => funext fun s_1' => slices_DeleteFunc_Group.l0.eq n del_1 m0 i' j' s_1'))
theorem slices_DeleteFunc_Group.run0 (n : Nat) (y : List (Ty.den TGroup)) (x : pdens slices_DeleteFunc_Group.ps) : Vi.runD (slices_DeleteFunc_Group.C n) n f53 TGroup slices_DeleteFunc_Group.ps slices_DeleteFunc_Group.rs y x = slices_DeleteFunc_Group.s n (fun (del_1' : (Group → Option Bool)) (i' : Int) (j' : Int) (s_1' : (List Group)) => it (EmR.no _) (slices_DeleteFunc_Group.C n) n (Code.go slices_DeleteFunc_Group.code [1, 1, 1, 0, 1, 0, 0]) (blockK 0 (seqK (EmR.no _) (slices_DeleteFunc_Group.C n) n (Code.go slices_DeleteFunc_Group.code [1, 1, 1, 1]) (bodyK (slices_DeleteFunc_Group.C n) f53 slices_DeleteFunc_Group.rs))) n ⟨[(0, .vec 0 0 TGroup), (1, .fn [TGroup] [.bool] (del_1')), (5, .dat (.int .i64) (i')), (6, .dat (.int .i64) (j'))], [(0, .box 0 false (.row TGroup (s_1')))]⟩) y x := by kernel_rfl
theorem slices_DeleteFunc_Group.eq (n : Nat) (y : List (Ty.den TGroup)) (x : pdens slices_DeleteFunc_Group.ps) : Vi.runD (slices_DeleteFunc_Group.C n) n f53 TGroup slices_DeleteFunc_Group.ps slices_DeleteFunc_Group.rs y x = slices_DeleteFunc_Group n y x :=
  (slices_DeleteFunc_Group.run0 n y x).trans (congr1 (fun k0 => slices_DeleteFunc_Group.s n k0 y x) (funext fun del_1' => funext fun i' => funext fun j' => funext fun s_1' => slices_DeleteFunc_Group.l0.eq n del_1' n i' j' s_1'))
theorem slices_DeleteFunc_Group.sound (n : Nat) : SoundD prog 53 (slices_DeleteFunc_Group.e n) :=
  soundD_of_run (C := slices_DeleteFunc_Group.C n) (n := n) (slices_DeleteFunc_Group.ok n) func53 (by kernel_rfl) (by kernel_rfl) (fun y x r h => (slices_DeleteFunc_Group.eq n y x).trans h)

def group_drop.rs : List RTy := [.data (.slc TGroup), .data TFault]
def group_drop.ps : List PTy := [.data (.slc TGroup), .data (.int .i64)]
noncomputable def group_drop.e (n : Nat) : Ent := ⟨group_drop.ps, group_drop.rs, fun x => group_drop n x.1 x.2⟩
noncomputable def group_drop.C (n : Nat) : Ctx := { tab := tab, fts := fts, pts := pts, Γ := lookO [(50, slices_ContainsFunc_Group.e n), (87, group_place.e n), (88, group_bad.e n), (90, group_numbered.e n), (99, group_fresh.e n)], Γc := lookO [(137, group_drop_1.e n), (138, group_drop_2.e n)], Γs := lookO [], Γm := lookO [], Γo := lookO [], Γd := lookO [(53, slices_DeleteFunc_Group.e n)], ntmps := f89.ntmps, keep := Vi.look ([], []) [], pins := [], cold := [3] }
theorem group_drop.ok (n : Nat) : CtxOk prog (group_drop.C n) := ⟨types, ftsOk_, ptsOk_, (fns_cons (slices_ContainsFunc_Group.sound n) (fns_cons (group_place.sound n) (fns_cons (group_bad.sound n) (fns_cons (group_numbered.sound n) (fns_cons (group_fresh.sound n) fns_nil))))), (cls_cons (group_drop_1.sound n) (cls_cons (group_drop_2.sound n) cls_nil)), sqs_nil, ems_nil, mixed, ons_nil, (des_cons (slices_DeleteFunc_Group.sound n) des_nil)⟩
theorem group_drop.eq (n : Nat) (x : pdens group_drop.ps) : Vi.run (group_drop.C n) n f89 group_drop.ps group_drop.rs x = group_drop n x.1 x.2 := by kernel_rfl
theorem group_drop.sound (n : Nat) : SoundE prog 89 (group_drop.e n) :=
  soundE_of_run (C := group_drop.C n) (n := n) (group_drop.ok n) func89 (by kernel_rfl) (by kernel_rfl) (fun x r h => (group_drop.eq n x).trans h)

def group_weighs.rs : List RTy := [.data (.int .i64), .data TFault]
def group_weighs.ps : List PTy := [.data (.int .i64)]
noncomputable def group_weighs.e (n : Nat) : Ent := ⟨group_weighs.ps, group_weighs.rs, fun x => some (group_weighs x)⟩
noncomputable def group_weighs.C (n : Nat) : Ctx := { tab := tab, fts := fts, pts := pts, Γ := lookO [(88, group_bad.e n)], Γc := lookO [], Γs := lookO [], Γm := lookO [], Γo := lookO [], Γd := lookO [], ntmps := f107.ntmps, keep := Vi.look ([], []) [], pins := [] }
theorem group_weighs.ok (n : Nat) : CtxOk prog (group_weighs.C n) := ⟨types, ftsOk_, ptsOk_, (fns_cons (group_bad.sound n) fns_nil), cls_nil, sqs_nil, ems_nil, mixed, ons_nil, des_nil⟩
theorem group_weighs.run0 (n : Nat) (x : pdens group_weighs.ps) : Vi.run (group_weighs.C n) n f107 group_weighs.ps group_weighs.rs x = group_weighs.o x := by kernel_rfl
theorem group_weighs.eq (n : Nat) (x : pdens group_weighs.ps) : Vi.run (group_weighs.C n) n f107 group_weighs.ps group_weighs.rs x = some (group_weighs x) := (group_weighs.run0 n x).trans (group_weighs.o_eq _)
theorem group_weighs.sound (n : Nat) : SoundE prog 107 (group_weighs.e n) :=
  soundE_of_run (C := group_weighs.C n) (n := n) (group_weighs.ok n) func107 (by kernel_rfl) (by kernel_rfl) (fun x r h => (group_weighs.eq n x).trans h)

def group_watches.rs : List RTy := [.data .bool]
def group_watches.ps : List PTy := [.data (.int .i64), .data (.int .i64)]
noncomputable def group_watches.e (n : Nat) : Ent := ⟨group_watches.ps, group_watches.rs, fun x => some (group_watches x.1 x.2)⟩
noncomputable def group_watches.C (n : Nat) : Ctx := { tab := tab, fts := fts, pts := pts, Γ := lookO [], Γc := lookO [], Γs := lookO [], Γm := lookO [], Γo := lookO [], Γd := lookO [], ntmps := f108.ntmps, keep := Vi.look ([], []) [], pins := [] }
theorem group_watches.ok (n : Nat) : CtxOk prog (group_watches.C n) := ⟨types, ftsOk_, ptsOk_, fns_nil, cls_nil, sqs_nil, ems_nil, mixed, ons_nil, des_nil⟩
theorem group_watches.run0 (n : Nat) (x : pdens group_watches.ps) : Vi.run (group_watches.C n) n f108 group_watches.ps group_watches.rs x = group_watches.o x.1 x.2 := by kernel_rfl
theorem group_watches.eq (n : Nat) (x : pdens group_watches.ps) : Vi.run (group_watches.C n) n f108 group_watches.ps group_watches.rs x = some (group_watches x.1 x.2) := (group_watches.run0 n x).trans (group_watches.o_eq _ _)
theorem group_watches.sound (n : Nat) : SoundE prog 108 (group_watches.e n) :=
  soundE_of_run (C := group_watches.C n) (n := n) (group_watches.ok n) func108 (by kernel_rfl) (by kernel_rfl) (fun x r h => (group_watches.eq n x).trans h)

def group_Check.rs : List RTy := [.data TFault]
def group_Check.ps : List PTy := [.data (.int .i64), .data (.slc TBucket)]
noncomputable def group_Check.e (n : Nat) : Ent := ⟨group_Check.ps, group_Check.rs, fun x => group_Check n x.1 x.2⟩
noncomputable def group_Check.C (n : Nat) : Ctx := { tab := tab, fts := fts, pts := pts, Γ := lookO [(88, group_bad.e n), (107, group_weighs.e n), (108, group_watches.e n)], Γc := lookO [], Γs := lookO [], Γm := lookO [], Γo := lookO [], Γd := lookO [], ntmps := f63.ntmps, keep := Vi.look ([], []) [(9, ([0, 4, 5, 6, 36, 37, 38], [4, 6]))], pins := [] }
theorem group_Check.ok (n : Nat) : CtxOk prog (group_Check.C n) := ⟨types, ftsOk_, ptsOk_, (fns_cons (group_bad.sound n) (fns_cons (group_weighs.sound n) (fns_cons (group_watches.sound n) fns_nil))), cls_nil, sqs_nil, ems_nil, mixed, ons_nil, des_nil⟩
noncomputable def group_Check.code : Code := bodyOf f63
theorem group_Check.l0.step (n : Nat) (m0 : Nat) (kind_1 : Int) (weight : Int) (v36 : (List Bucket)) (v37 : Int) (v38 : Int) (v4 : Fault) (f : Fault) : it (EmR.no _) (group_Check.C n) n (Code.go group_Check.code [1, 1, 1, 0, 1, 0, 0]) (blockK 1 (seqK (EmR.no _) (group_Check.C n) n (Code.go group_Check.code [1, 1, 1, 1]) (bodyK (group_Check.C n) f63 group_Check.rs))) (m0 + 1) ⟨[(0, .dat (.int .i64) kind_1), (4, .ptr 4 0 TFault []), (5, .dat (.int .i64) weight), (6, .ptr 6 0 TFault []), (36, .dat (.slc TBucket) v36), (37, .dat (.int .i64) v37), (38, .dat (.int .i64) v38)], [(4, .box 0 false (.dat TFault v4)), (6, .box 0 false (.dat TFault f))]⟩ = group_Check.s0 n (fun (v38' : Int) => it (EmR.no _) (group_Check.C n) n (Code.go group_Check.code [1, 1, 1, 0, 1, 0, 0]) (blockK 1 (seqK (EmR.no _) (group_Check.C n) n (Code.go group_Check.code [1, 1, 1, 1]) (bodyK (group_Check.C n) f63 group_Check.rs))) m0 ⟨[(0, .dat (.int .i64) kind_1), (4, .ptr 4 0 TFault []), (5, .dat (.int .i64) weight), (6, .ptr 6 0 TFault []), (36, .dat (.slc TBucket) v36), (37, .dat (.int .i64) v37), (38, .dat (.int .i64) (v38'))], [(4, .box 0 false (.dat TFault v4)), (6, .box 0 false (.dat TFault f))]⟩) kind_1 weight v36 v37 v38 v4 f := by kernel_rfl
theorem group_Check.l0.eq (n : Nat) (kind_1 : Int) (weight : Int) (v36 : (List Bucket)) (v37 : Int) (v4 : Fault) (f : Fault) : ∀ (m0 : Nat) (v38 : Int), it (EmR.no _) (group_Check.C n) n (Code.go group_Check.code [1, 1, 1, 0, 1, 0, 0]) (blockK 1 (seqK (EmR.no _) (group_Check.C n) n (Code.go group_Check.code [1, 1, 1, 1]) (bodyK (group_Check.C n) f63 group_Check.rs))) m0 ⟨[(0, .dat (.int .i64) kind_1), (4, .ptr 4 0 TFault []), (5, .dat (.int .i64) weight), (6, .ptr 6 0 TFault []), (36, .dat (.slc TBucket) v36), (37, .dat (.int .i64) v37), (38, .dat (.int .i64) v38)], [(4, .box 0 false (.dat TFault v4)), (6, .box 0 false (.dat TFault f))]⟩ = group_Check.l0 n kind_1 weight v36 v37 v4 f m0 v38
  | 0, _ => rfl
  | m0 + 1, v38 =>
    (group_Check.l0.step n m0 kind_1 weight v36 v37 v38 v4 f).trans (congr1 (fun k0 => group_Check.s0 n k0 kind_1 weight v36 v37 v38 v4 f) (funext fun v38' => group_Check.l0.eq n kind_1 weight v36 v37 v4 f m0 v38'))
theorem group_Check.run0 (n : Nat) (x : pdens group_Check.ps) : Vi.run (group_Check.C n) n f63 group_Check.ps group_Check.rs x = group_Check.s n (fun (kind_1' : Int) (weight' : Int) (v36' : (List Bucket)) (v37' : Int) (v38' : Int) (v4' : Fault) (f' : Fault) => it (EmR.no _) (group_Check.C n) n (Code.go group_Check.code [1, 1, 1, 0, 1, 0, 0]) (blockK 1 (seqK (EmR.no _) (group_Check.C n) n (Code.go group_Check.code [1, 1, 1, 1]) (bodyK (group_Check.C n) f63 group_Check.rs))) n ⟨[(0, .dat (.int .i64) (kind_1')), (4, .ptr 4 0 TFault []), (5, .dat (.int .i64) (weight')), (6, .ptr 6 0 TFault []), (36, .dat (.slc TBucket) (v36')), (37, .dat (.int .i64) (v37')), (38, .dat (.int .i64) (v38'))], [(4, .box 0 false (.dat TFault (v4'))), (6, .box 0 false (.dat TFault (f')))]⟩) x.1 x.2 := by kernel_rfl
theorem group_Check.eq (n : Nat) (x : pdens group_Check.ps) : Vi.run (group_Check.C n) n f63 group_Check.ps group_Check.rs x = group_Check n x.1 x.2 :=
  (group_Check.run0 n x).trans (congr1 (fun k0 => group_Check.s n k0 x.1 x.2) (funext fun kind_1' => funext fun weight' => funext fun v36' => funext fun v37' => funext fun v38' => funext fun v4' => funext fun f' => group_Check.l0.eq n kind_1' weight' v36' v37' v4' f' n v38'))
theorem group_Check.sound (n : Nat) : SoundE prog 63 (group_Check.e n) :=
  soundE_of_run (C := group_Check.C n) (n := n) (group_Check.ok n) func63 (by kernel_rfl) (by kernel_rfl) (fun x r h => (group_Check.eq n x).trans h)

def group_there_1.rs : List Ty := [.bool]
def group_there_1.ps : List Ty := [(.int .i64)]
def group_there_1.caps : List PTy := [.cptr (.slc TGroup)]
noncomputable def group_there_1.e (n : Nat) : Cl := ⟨group_there_1.ps, group_there_1.caps, group_there_1.rs, fun x c => group_there_1 n x c⟩
noncomputable def group_there_1.C (n : Nat) : Ctx := { tab := tab, fts := fts, pts := pts, Γ := lookO [(87, group_place.e n)], Γc := lookO [], Γs := lookO [], Γm := lookO [], Γo := lookO [], Γd := lookO [], ntmps := f143.ntmps, keep := Vi.look ([], []) [], pins := [] }
theorem group_there_1.ok (n : Nat) : CtxOk prog (group_there_1.C n) := ⟨types, ftsOk_, ptsOk_, (fns_cons (group_place.sound n) fns_nil), cls_nil, sqs_nil, ems_nil, mixed, ons_nil, des_nil⟩
theorem group_there_1.eq (n : Nat) (x : dens group_there_1.ps) (c : pdens group_there_1.caps) : Vi.runC (group_there_1.C n) n f143 group_there_1.ps group_there_1.caps group_there_1.rs x c = group_there_1 n x c := by kernel_rfl
theorem group_there_1.sound (n : Nat) : SoundC prog 143 (group_there_1.e n) :=
  soundC_of_run (C := group_there_1.C n) (n := n) (group_there_1.ok n) func143 (by kernel_rfl) (by kernel_rfl) (fun x c r h => (group_there_1.eq n x c).trans h)

def slices_IndexFunc_int.rs : List RTy := [.data (.int .i64)]
def slices_IndexFunc_int.ps : List PTy := [.data (.slc (.int .i64)), .fnp [(.int .i64)] [.bool]]
noncomputable def slices_IndexFunc_int.e (n : Nat) : Ent := ⟨slices_IndexFunc_int.ps, slices_IndexFunc_int.rs, fun x => slices_IndexFunc_int n x.1 x.2⟩
noncomputable def slices_IndexFunc_int.C (n : Nat) : Ctx := { tab := tab, fts := fts, pts := pts, Γ := lookO [], Γc := lookO [], Γs := lookO [], Γm := lookO [], Γo := lookO [], Γd := lookO [], ntmps := f168.ntmps, keep := Vi.look ([], []) [(2, ([0, 1, 7, 8], []))], pins := [] }
theorem slices_IndexFunc_int.ok (n : Nat) : CtxOk prog (slices_IndexFunc_int.C n) := ⟨types, ftsOk_, ptsOk_, fns_nil, cls_nil, sqs_nil, ems_nil, mixed, ons_nil, des_nil⟩
noncomputable def slices_IndexFunc_int.code : Code := bodyOf f168
theorem slices_IndexFunc_int.l0.step (n : Nat) (m0 : Nat) (s_1 : (List Int)) (f_1 : (Int → Option Bool)) (v7 : Int) (v8 : Int) : it (EmR.no _) (slices_IndexFunc_int.C n) n (Code.go slices_IndexFunc_int.code [1, 0, 1, 0, 0]) (blockK 0 (seqK (EmR.no _) (slices_IndexFunc_int.C n) n (Code.go slices_IndexFunc_int.code [1, 1]) (bodyK (slices_IndexFunc_int.C n) f168 slices_IndexFunc_int.rs))) (m0 + 1) ⟨[(0, .dat (.slc (.int .i64)) s_1), (1, .fn [(.int .i64)] [.bool] f_1), (7, .dat (.int .i64) v7), (8, .dat (.int .i64) v8)], []⟩ = slices_IndexFunc_int.s0 n (fun (v8' : Int) => it (EmR.no _) (slices_IndexFunc_int.C n) n (Code.go slices_IndexFunc_int.code [1, 0, 1, 0, 0]) (blockK 0 (seqK (EmR.no _) (slices_IndexFunc_int.C n) n (Code.go slices_IndexFunc_int.code [1, 1]) (bodyK (slices_IndexFunc_int.C n) f168 slices_IndexFunc_int.rs))) m0 ⟨[(0, .dat (.slc (.int .i64)) s_1), (1, .fn [(.int .i64)] [.bool] f_1), (7, .dat (.int .i64) v7), (8, .dat (.int .i64) (v8'))], []⟩) s_1 f_1 v7 v8 := by kernel_rfl
theorem slices_IndexFunc_int.l0.eq (n : Nat) (s_1 : (List Int)) (f_1 : (Int → Option Bool)) (v7 : Int) : ∀ (m0 : Nat) (v8 : Int), it (EmR.no _) (slices_IndexFunc_int.C n) n (Code.go slices_IndexFunc_int.code [1, 0, 1, 0, 0]) (blockK 0 (seqK (EmR.no _) (slices_IndexFunc_int.C n) n (Code.go slices_IndexFunc_int.code [1, 1]) (bodyK (slices_IndexFunc_int.C n) f168 slices_IndexFunc_int.rs))) m0 ⟨[(0, .dat (.slc (.int .i64)) s_1), (1, .fn [(.int .i64)] [.bool] f_1), (7, .dat (.int .i64) v7), (8, .dat (.int .i64) v8)], []⟩ = slices_IndexFunc_int.l0 n s_1 f_1 v7 m0 v8
  | 0, _ => rfl
  | m0 + 1, v8 =>
    (slices_IndexFunc_int.l0.step n m0 s_1 f_1 v7 v8).trans (congr1 (fun k0 => slices_IndexFunc_int.s0 n k0 s_1 f_1 v7 v8) (funext fun v8' => slices_IndexFunc_int.l0.eq n s_1 f_1 v7 m0 v8'))
theorem slices_IndexFunc_int.run0 (n : Nat) (x : pdens slices_IndexFunc_int.ps) : Vi.run (slices_IndexFunc_int.C n) n f168 slices_IndexFunc_int.ps slices_IndexFunc_int.rs x = slices_IndexFunc_int.s n (fun (s_1' : (List Int)) (f_1' : (Int → Option Bool)) (v7' : Int) (v8' : Int) => it (EmR.no _) (slices_IndexFunc_int.C n) n (Code.go slices_IndexFunc_int.code [1, 0, 1, 0, 0]) (blockK 0 (seqK (EmR.no _) (slices_IndexFunc_int.C n) n (Code.go slices_IndexFunc_int.code [1, 1]) (bodyK (slices_IndexFunc_int.C n) f168 slices_IndexFunc_int.rs))) n ⟨[(0, .dat (.slc (.int .i64)) (s_1')), (1, .fn [(.int .i64)] [.bool] (f_1')), (7, .dat (.int .i64) (v7')), (8, .dat (.int .i64) (v8'))], []⟩) x.1 x.2 := by kernel_rfl
theorem slices_IndexFunc_int.eq (n : Nat) (x : pdens slices_IndexFunc_int.ps) : Vi.run (slices_IndexFunc_int.C n) n f168 slices_IndexFunc_int.ps slices_IndexFunc_int.rs x = slices_IndexFunc_int n x.1 x.2 :=
  (slices_IndexFunc_int.run0 n x).trans (congr1 (fun k0 => slices_IndexFunc_int.s n k0 x.1 x.2) (funext fun s_1' => funext fun f_1' => funext fun v7' => funext fun v8' => slices_IndexFunc_int.l0.eq n s_1' f_1' v7' n v8'))
theorem slices_IndexFunc_int.sound (n : Nat) : SoundE prog 168 (slices_IndexFunc_int.e n) :=
  soundE_of_run (C := slices_IndexFunc_int.C n) (n := n) (slices_IndexFunc_int.ok n) func168 (by kernel_rfl) (by kernel_rfl) (fun x r h => (slices_IndexFunc_int.eq n x).trans h)

def slices_ContainsFunc_int.rs : List RTy := [.data .bool]
def slices_ContainsFunc_int.ps : List PTy := [.data (.slc (.int .i64)), .fnp [(.int .i64)] [.bool]]
noncomputable def slices_ContainsFunc_int.e (n : Nat) : Ent := ⟨slices_ContainsFunc_int.ps, slices_ContainsFunc_int.rs, fun x => slices_ContainsFunc_int n x.1 x.2⟩
noncomputable def slices_ContainsFunc_int.C (n : Nat) : Ctx := { tab := tab, fts := fts, pts := pts, Γ := lookO [(168, slices_IndexFunc_int.e n)], Γc := lookO [], Γs := lookO [], Γm := lookO [], Γo := lookO [], Γd := lookO [], ntmps := f142.ntmps, keep := Vi.look ([], []) [], pins := [] }
theorem slices_ContainsFunc_int.ok (n : Nat) : CtxOk prog (slices_ContainsFunc_int.C n) := ⟨types, ftsOk_, ptsOk_, (fns_cons (slices_IndexFunc_int.sound n) fns_nil), cls_nil, sqs_nil, ems_nil, mixed, ons_nil, des_nil⟩
theorem slices_ContainsFunc_int.eq (n : Nat) (x : pdens slices_ContainsFunc_int.ps) : Vi.run (slices_ContainsFunc_int.C n) n f142 slices_ContainsFunc_int.ps slices_ContainsFunc_int.rs x = slices_ContainsFunc_int n x.1 x.2 := by kernel_rfl
theorem slices_ContainsFunc_int.sound (n : Nat) : SoundE prog 142 (slices_ContainsFunc_int.e n) :=
  soundE_of_run (C := slices_ContainsFunc_int.C n) (n := n) (slices_ContainsFunc_int.ok n) func142 (by kernel_rfl) (by kernel_rfl) (fun x r h => (slices_ContainsFunc_int.eq n x).trans h)

def group_there.rs : List RTy := [.data .bool]
def group_there.ps : List PTy := [.data (.slc TGroup), .data (.slc TBucket)]
noncomputable def group_there.e (n : Nat) : Ent := ⟨group_there.ps, group_there.rs, fun x => group_there n x.1 x.2⟩
noncomputable def group_there.C (n : Nat) : Ctx := { tab := tab, fts := fts, pts := pts, Γ := lookO [(48, group_Names.e n), (142, slices_ContainsFunc_int.e n)], Γc := lookO [(143, group_there_1.e n)], Γs := lookO [], Γm := lookO [], Γo := lookO [], Γd := lookO [], ntmps := f97.ntmps, keep := Vi.look ([], []) [], pins := [], cold := [2] }
theorem group_there.ok (n : Nat) : CtxOk prog (group_there.C n) := ⟨types, ftsOk_, ptsOk_, (fns_cons (group_Names.sound n) (fns_cons (slices_ContainsFunc_int.sound n) fns_nil)), (cls_cons (group_there_1.sound n) cls_nil), sqs_nil, ems_nil, mixed, ons_nil, des_nil⟩
theorem group_there.eq (n : Nat) (x : pdens group_there.ps) : Vi.run (group_there.C n) n f97 group_there.ps group_there.rs x = group_there n x.1 x.2 := by kernel_rfl
theorem group_there.sound (n : Nat) : SoundE prog 97 (group_there.e n) :=
  soundE_of_run (C := group_there.C n) (n := n) (group_there.ok n) func97 (by kernel_rfl) (by kernel_rfl) (fun x r h => (group_there.eq n x).trans h)

open Go.Proofs
open Go.RowKit (Below)
/-- A map of places: each that is there has the number one. -/
def MapAt (w : World) (bm : Nat) (seen : List Int) : Prop := ∃ (es : Array MapEntry) (clock : Nat), w.heap[bm]? = some (.map es clock) ∧ (∀ x ∈ es.toList, x.born < clock) ∧ (es.toList.map (·.born)).Nodup ∧ es.toList.map (fun e => (e.key, e.val)) = seen.map (fun i => (.int .i64 i, .int .i64 1))

theorem find_now : ∀ (es : List MapEntry) (seen : List Int) (i : Int) (k : Nat), es.map (fun e => (e.key, e.val)) = seen.map (fun i => (Value.int .i64 i, Value.int .i64 1)) →
    ∃ r, Instr.findNow (.int .i64) (.int .i64 i) es k = some r ∧ (seen.contains i = true → ∃ j, r = some (j, .int .i64 1)) ∧ (seen.contains i = false → r = none)
  | [], [], i, k, _ => ⟨none, rfl, fun h => (by cases h), fun _ => rfl⟩
  | e :: es, s :: seen, i, k, h => by
    simp only [List.map_cons, List.cons.injEq, Prod.mk.injEq] at h
    obtain ⟨⟨h1, h2⟩, h3⟩ := h
    by_cases hs : i = s
    · subst hs
      refine ⟨some (k, .int .i64 1), ?_, fun _ => ⟨k, rfl⟩, fun h => by simp at h⟩
      simp [Instr.findNow, Instr.sameNow, h1, h2]
    · obtain ⟨r, r1, r2, r3⟩ := find_now es seen i (k + 1) h3
      refine ⟨r, ?_, fun h => r2 ?_, fun h => r3 ?_⟩
      · have hb : (i == s) = false := by simpa using hs
        simp only [Instr.findNow, Instr.sameNow, h1, if_true, hb, r1]
      · simpa [hs] using h
      · simpa [hs] using h
  | [], _ :: _, _, _, h => by simp at h
  | _ :: _, [], _, _, h => by simp at h

theorem check_int (w : World) (b : Bool) (x : Int) : (Instr.checkKey b 10000 3 (.int .i64 x)).run prog w = .ok () w := by
  have key : ∀ n, (Instr.checkKey b (n + 1) 3 (.int .i64 x)).run prog w = .ok () w := fun n => by
    simp only [Instr.checkKey, Sem.run_bind, run_underlying underlying3, Result.andThen_ok, Sem.run_pure]
  exact key 9999
theorem look_map {w : World} {bm : Nat} {seen : List Int} (h : MapAt w bm seen) (i : Int) : (Instr.lookup 147 (.map (some bm)) (.int .i64 i) false).run prog w = .ok (.int .i64 (bif seen.contains i then 1 else 0)) w := by
  obtain ⟨es, clock, h1, h2, h3, h4⟩ := h
  obtain ⟨r, r1, r2, r3⟩ := find_now es.toList seen i 0 h4
  have hz : (zeroValue 3).run prog w = .ok (.int .i64 0) w := zeroValue3 w
  have hg : (getObj bm).run prog w = .ok (.map es clock) w := by simp [getObj, Sem.run, h1]
  simp only [Instr.lookup, Sem.run_bind, run_underlying underlying147, Result.andThen_ok, hg, Sem.run_pure, check_int, Instr.findKey, run_underlying underlying3, r1]
  cases hc : seen.contains i with
  | true =>
    obtain ⟨j, rfl⟩ := r2 hc
    simp
  | false =>
    obtain rfl := r3 hc
    simp [hz]
theorem put_map {w : World} {bm : Nat} {seen : List Int} (h : MapAt w bm seen) (i : Int) (hi : seen.contains i = false) : ∃ w' : World, (Instr.mapUpdate 147 (.map (some bm)) (.int .i64 i) (.int .i64 1)).run prog w = .ok () w' ∧ MapAt w' bm (seen ++ [i]) ∧
    w'.os = w.os ∧ w'.tape = w.tape ∧ w'.output = w.output ∧ w'.heap.size = w.heap.size ∧ ∀ k, k ≠ bm → w'.heap[k]? = w.heap[k]? := by
  obtain ⟨es, clock, h1, h2, h3, h4⟩ := h
  obtain ⟨r, r1, _, r3⟩ := find_now es.toList seen i 0 h4
  obtain rfl := r3 hi
  have hg : (getObj bm).run prog w = .ok (.map es clock) w := by simp [getObj, Sem.run, h1]
  have hlt := (Array.getElem?_eq_some_iff.1 h1).1
  have hs : ∀ o' : Obj, (setObj bm o').run prog w = .ok () { w with heap := w.heap.setIfInBounds bm o' } := fun o' => by
    simp only [setObj, Sem.run, h1]
  refine ⟨{ w with heap := w.heap.setIfInBounds bm (.map (es.push { key := .int .i64 i, val := .int .i64 1, born := clock }) (clock + 1)) }, ?_, ⟨_, clock + 1, Array.getElem?_setIfInBounds_self_of_lt hlt, ?_, ?_, ?_⟩, rfl, rfl, rfl, by simp, fun k hk => by
    show (w.heap.setIfInBounds bm _)[k]? = _
    rw [Array.getElem?_setIfInBounds_ne (Ne.symm hk)]⟩
  · simp only [Instr.mapUpdate, Sem.run_bind, run_underlying underlying147, Result.andThen_ok, hg, check_int, Instr.findKey, run_underlying underlying3, r1, Sem.run_pure, hs]
  · intro x hx
    rw [Array.toList_push, List.mem_append] at hx
    rcases hx with hx | hx
    · have := h2 x hx; omega
    · rw [List.mem_singleton] at hx; subst hx; simp
  · rw [Array.toList_push, List.map_append, List.nodup_append]
    refine ⟨h3, by simp, fun a ha b hb => ?_⟩
    obtain ⟨x, hx, rfl⟩ := List.mem_map.1 ha
    have := h2 x hx
    simp at hb
    omega
  · rw [Array.toList_push, List.map_append, h4, List.map_append]; rfl

theorem _root_.Go.Vi.FwdX.refl (b : Nat) (G : Gh) (w : World) : FwdX b G w G w := ⟨rfl, rfl, rfl, Nat.le_refl _, fun _ _ _ => ⟨rfl, rfl⟩, Adv.refl _ _⟩
theorem _root_.Go.Vi.FwdX.trans {b : Nat} {G G' G'' : Gh} {w w' w'' : World} (h : FwdX b G w G' w') (k : FwdX b G' w' G'' w'') : FwdX b G w G'' w'' :=
  ⟨k.os.trans h.os, k.tape.trans h.tape, k.output.trans h.output, Nat.le_trans h.size k.size, fun j hj hne => by
    obtain ⟨a, c⟩ := h.same j hj hne
    obtain ⟨a', c'⟩ := k.same j (Nat.lt_of_lt_of_le hj h.size) hne
    exact ⟨a'.trans a, c'.trans c⟩, h.adv.trans k.adv⟩
theorem _root_.Go.Vi.FwdX.ofFwd {b : Nat} {G G' : Gh} {w w' : World} (h : Fwd G w G' w') : FwdX b G w G' w' :=
  ⟨h.below.os, h.below.tape, h.below.output, h.below.size, fun j hj _ => ⟨h.below.block j hj, h.own j hj⟩, h.adv⟩
theorem MapAt.fwd {G G' : Gh} {w w' : World} {bm : Nat} {seen : List Int} (h : MapAt w bm seen) (k : Fwd G w G' w') : MapAt w' bm seen := by
  obtain ⟨es, clock, h1, h2, h3, h4⟩ := h
  exact ⟨es, clock, by rw [k.below.block bm (Array.getElem?_eq_some_iff.1 h1).1]; exact h1, h2, h3, h4⟩
/-- Another map in its place. -/
theorem _root_.Go.Vi.FwdX.map {G : Gh} {w w' : World} {bm : Nat} {seen : List Int} (h : MapAt w bm seen) (h1 : w'.os = w.os) (h2 : w'.tape = w.tape) (h3 : w'.output = w.output) (h4 : w'.heap.size = w.heap.size) (h5 : ∀ k, k ≠ bm → w'.heap[k]? = w.heap[k]?) : FwdX bm G w G w' := by
  obtain ⟨es, clock, q, _⟩ := h
  refine ⟨h1, h2, h3, Nat.le_of_eq h4.symm, fun k _ hne => ⟨h5 k hne, rfl⟩, ⟨fun b o v hc hs => ⟨?_, hs⟩⟩⟩
  by_cases e : b = bm
  · subst e
    unfold Cell World.cell? at hc
    simp [q] at hc
  · rw [Cell.of_block (h5 b e)]; exact hc

theorem wrap_small {j n : Nat} (h : j < n) (k : (n : Int) < 4611686018427387904) : RowKit.wrap64 ((j : Int) + 1) = ((j + 1 : Nat) : Int) := by
  unfold RowKit.wrap64; omega
def FromPost (bm t : Nat) (G : Gh) (w : World) (seen : List Int) (e : Ending) (w' : World) : Prop := ∃ G', e = .returned (.tuple #[]) ∧ FwdX bm G w G' w' ∧ Lv t G' w' ∧ MapAt w' bm seen
def PlacePost (t : Nat) (G : Gh) (w : World) (i : Int) (e : Ending) (w' : World) : Prop := e = .returned (.int .i64 i) ∧ ∃ G', Fwd G w G' w' ∧ Lv t G' w'
theorem place_calls {n t : Nat} {G : Gh} {w : World} {l : List Group} {gv : Value} {id1 i : Int} (hlv : Lv t G w) (hl : RepV G w (.slc TGroup) l gv) (h : group_place n l id1 = some i) : Calls prog 87 #[gv, .int .i64 id1] w (PlacePost t G w i) := by
  refine ((group_place.sound n).2 t t G w (Nat.le_refl _) hlv (l, id1) [gv, .int .i64 id1] ⟨gv, [.int .i64 id1], rfl, hl, _, rfl, RepV.mk_int _ _⟩ i h).mono ?_
  rintro e w' ⟨us, G', rfl, h1, h2, v, rfl, h3⟩
  rw [RepV.int h3]
  exact ⟨rfl, G', h1, h2⟩
def NamesPost (t : Nat) (G : Gh) (w : World) (names : List Int) (e : Ending) (w' : World) : Prop := ∃ ao c, e = .returned (.slice ao names.length c) ∧ ∃ G', Fwd G w G' w' ∧ Lv t G' w' ∧ RepV G' w' (.slc (.int .i64)) names (.slice ao names.length c)
theorem names_calls {n t : Nat} {G : Gh} {w : World} {b : List Bucket} {bv : Value} {names : List Int} (hlv : Lv t G w) (hb : RepV G w (.slc TBucket) b bv) (h : group_Names n b = some names) : Calls prog 48 #[bv] w (NamesPost t G w names) := by
  refine ((group_Names.sound n).2 t t G w (Nat.le_refl _) hlv b [bv] ⟨bv, rfl, hb⟩ names h).mono ?_
  rintro e w' ⟨us, G', rfl, h1, h2, v, rfl, h3, _⟩
  obtain ⟨ao, c, rfl, hc, hrow⟩ := RepV.slc h3
  exact ⟨ao, c, rfl, G', h1, h2, h3⟩

def jOf : Value → Nat
  | .int _ n => n.toNat
  | _ => 0
theorem cell_sb {w : World} {sb : Nat} {x y : Value} {et : TypeId} (h : w.heap[sb]? = some (.cells #[x, y] et (0, 0))) : w.cell? ⟨sb, 0, none⟩ = some x ∧ w.cell? ⟨sb, 1, none⟩ = some y := by
  constructor <;> simp [World.cell?, h]
theorem jOf_next {j m : Nat} (h : j < m) (k : (m : Int) < 4611686018427387904) : m - jOf (.int .i64 (RowKit.wrap64 ((j : Int) + 1))) < m - jOf (.int .i64 j) := by
  rw [wrap_small h k]; show m - (((j + 1 : Nat) : Int)).toNat < m - ((j : Int)).toNat; omega
/-- What the loop over names keeps. -/
def FromRel (n k : Nat) (l : List Group) (names : List Int) (bm t : Nat) (G : Gh) (w : World) (fin : List Int) (i : Value) (wz : World) : Prop :=
  ∃ (j : Nat) (G' : Gh) (seen : List Int), j ≤ names.length ∧ i = .int .i64 j ∧ FwdX bm G w G' wz ∧ Lv t G' wz ∧ MapAt wz bm seen ∧ group_walkN (group_walk n l k) n l (names.drop j) seen = some fin

set_option maxRecDepth 1000000 in
theorem from_sound (n : Nat) (l : List Group) : ∀ (k : Nat) (at_ : Int) (seen fin : List Int) (t : Nat) (G : Gh) (w : World) (gv : Value) (sb bm : Nat) (et : TypeId), Lv t G w → RepV G w (.slc TGroup) l gv →
    w.heap[sb]? = some (.cells #[gv, .map (some bm)] et (0, 0)) → MapAt w bm seen → group_walk n l k at_ seen = some fin →
    Calls prog 104 #[.pointer (some ⟨sb, 0, none⟩), .int .i64 at_] w (FromPost bm t G w fin)
  | 0, _, _, _, _, _, _, _, _, _, _, _, _, _, _, h => by cases h
  | k + 1, at_, seen, fin, t, G, w, gv, sb, bm, et, hlv, hl, hsb, hm, h => by
    unfold group_walk at h
    cases hin : inRange at_ l.length with
    | false => rw [hin] at h; cases h
    | true =>
    rw [hin, cond_true] at h
    have hin : 0 ≤ at_ ∧ at_ < (l.length : Int) := by simpa [inRange] using hin
    obtain ⟨a, rfl⟩ := Int.eq_ofNat_of_zero_le hin.1
    have ha : a < l.length := by omega
    cases hN : group_Names n (List.getD l (a : Int).toNat zG).2.2 with
    | none => rw [hN] at h; cases h
    | some names =>
    rw [hN, obind_some] at h
    cases hsz : decide (names.length ≤ 140737488355328) with
    | false => rw [hsz] at h; cases h
    | true =>
    rw [hsz, cond_true] at h
    have hsz : (names.length : Int) < 4611686018427387904 := by have := of_decide_eq_true hsz; omega
    have hLsz := Lib.hid hsz
    clear hsz
    -- the groups
    obtain ⟨gao, gcap, rfl, gcle, grow⟩ := RepV.slc hl
    cases gao with
    | none => simp only at grow; omega
    | some gad =>
    obtain ⟨gsp, css, hcs, hgc⟩ := grow
    obtain ⟨gb, go, gspot⟩ := gad
    have gsp : gspot = none := gsp.resolve_right (by omega)
    subst gsp
    obtain ⟨it1, it2⟩ := hcs.item a ha
    -- the group's buckets
    have hrep : Rep G w TGroup (List.getD l a zG) ((css.flatten.drop (a * 3)).take 3) := it1
    obtain ⟨c1, cr, e1, r1, r2⟩ := hrep
    obtain ⟨c2, c3, e2, r3, r4⟩ := r2
    have r1 : c1 = [.int .i64 (List.getD l a zG).1] := r1
    have r3 : c2 = [.int .i64 (List.getD l a zG).2.1] := r3
    have r4 : Rep G w (.slc TBucket) (List.getD l a zG).2.2 c3 := r4
    obtain ⟨bv, hbv1, hbv2⟩ := r4.leaf rfl
    subst r1 r3 hbv1
    have hbv : RepV G w (.slc TBucket) (List.getD l a zG).2.2 bv := RepV.of_leaf r4 rfl
    have hbc : w.cell? ⟨gb, go + a * 3 + 2, none⟩ = some bv := by
      have h2 : css.flatten[a * 3 + 2]? = some bv := by
        have h3 : ((css.flatten.drop (a * 3)).take 3)[2]? = some bv := by rw [e1, e2]; rfl
        rw [List.getElem?_take, if_pos (by omega), List.getElem?_drop] at h3
        exact h3
      have := (hgc (a * 3 + 2) bv h2).1
      rw [Nat.add_assoc]
      exact this
    have k0 : w.cell? ⟨sb, 0, none⟩ = some (.slice (some ⟨gb, go, none⟩) l.length gcap) := by simp [World.cell?, hsb]
    rw [Int.toNat_natCast] at hN
    have hNames := names_calls hlv hbv hN
    have hLh := Lib.hid h
    go_enter func104, ntmps104
    go_step3
    go_wp2
    go_step3
    go_wp2_with (go_at_call 48; refine hNames.mono ?_; rintro e w1 ⟨nao, nc, rfl, G1, hf1, hlv1, hn1⟩)
    clear hNames hN k0 hbc h
    have hm1 := hm.fwd hf1
    go_loopw [17] (fun i w' => FromRel n k l names bm t G1 w1 fin i w') (fun i _ => names.length - jOf i)
    case atStart => exact ⟨0, G1, seen, Nat.zero_le _, rfl, FwdX.refl _ _ _, hlv1, hm1, hLh.out⟩
    case round =>
      obtain ⟨j, G2, seen2, hj, rfl, hf2, hlv2, hm2, hrest⟩ := hrel
      have hsm : sb ≠ bm := fun e => by
        obtain ⟨es, clock, q, _⟩ := hm
        rw [e, q] at hsb; cases hsb
      have hsb2 : wr.heap[sb]? = some (.cells #[.slice (some ⟨gb, go, none⟩) l.length gcap, .map (some bm)] et (0, 0)) := by
        have h1 := (Array.getElem?_eq_some_iff.1 hsb).1
        rw [(hf2.same sb (Nat.lt_of_lt_of_le h1 hf1.below.size) hsm).1, hf1.below.block sb h1]; exact hsb
      have hl2 := hl.adv (hf1.adv.trans hf2.adv)
      obtain ⟨k0, k1⟩ := cell_sb (w := wr) hsb2
      by_cases hlt : j < names.length
      · obtain ⟨id1, hid⟩ : ∃ id1, names[j]? = some id1 := ⟨names[j], List.getElem?_eq_getElem hlt⟩
        have hdrop : names.drop j = id1 :: names.drop (j + 1) := by
          obtain ⟨hh, he⟩ := List.getElem?_eq_some_iff.1 hid
          rw [List.drop_eq_getElem_cons hh, he]
        rw [hdrop] at hrest
        unfold group_walkN at hrest
        cases hpl : group_place n l id1 with
        | none => rw [hpl] at hrest; cases hrest
        | some i =>
        rw [hpl, obind_some] at hrest
        -- the name's cell
        obtain ⟨nao', nc', q1, ncle, nrow⟩ := RepV.slc hn1
        cases q1
        cases nao with
        | none => simp only at nrow; omega
        | some nad =>
        obtain ⟨nsp, ncss, nes, ncell⟩ := nrow
        obtain ⟨nb, no, nspot⟩ := nad
        have nsp : nspot = none := nsp.resolve_right (by omega)
        subst nsp
        have hnc : wr.cell? ⟨nb, no + j, none⟩ = some (.int .i64 id1) := by
          obtain ⟨p1, p2⟩ := nes.item j hlt
          have p1 : (ncss.flatten.drop (j * 1)).take 1 = [.int .i64 (List.getD names j 0)] := p1
          have hg : List.getD names j 0 = id1 := by rw [List.getD_eq_getElem?_getD, hid]; rfl
          have h3 : ncss.flatten[j]? = some (.int .i64 id1) := by
            have h4 : ((ncss.flatten.drop (j * 1)).take 1)[0]? = some (.int .i64 id1) := by rw [p1, hg]; rfl
            rw [List.getElem?_take, if_pos (by omega), List.getElem?_drop] at h4
            simpa using h4
          obtain ⟨c1, c2⟩ := ncell j _ h3
          exact (hf2.adv.cell _ _ _ c1 c2).1
        have hP := place_calls hlv2 hl2 hpl
        have hdec : decide (j < names.length) = true := decide_eq_true hlt
        clear hpl hid hdrop
        have hfold : ∀ (w3 : World) (G3 : Gh), Fwd G2 wr G3 w3 → (w3.cell? ⟨sb, 0, none⟩ = some (.slice (some ⟨gb, go, none⟩) l.length gcap) ∧ w3.cell? ⟨sb, 1, none⟩ = some (.map (some bm))) := fun w3 G3 hf3 => by
          have h1 := (Array.getElem?_eq_some_iff.1 hsb2).1
          exact cell_sb (w := w3) ((hf3.below.block sb h1).trans hsb2)
        by_cases hi0 : i < 0
        · have hd0 : decide (i < 0) = true := decide_eq_true hi0
          rw [hd0, cond_true] at hrest
          have hLr := Lib.hid hrest
          clear hrest hsb2
          go_wp2_with (go_at_call 87; refine hP.mono ?_; rintro e w3 ⟨rfl, G3, hf3, hlv3⟩; clear hP k0 k1)
          go_roundw
          case rel => exact ⟨j + 1, G3, seen2, hlt, congrArg _ (wrap_small hlt hLsz.out), hf2.trans (FwdX.ofFwd hf3), hlv3, hm2.fwd hf3, hLr.out⟩
          case measure => exact jOf_next hlt hLsz.out
        · have hd0 : decide (i < 0) = false := decide_eq_false hi0
          rw [hd0, cond_false] at hrest
          cases hc : seen2.contains i with
          | true =>
            rw [hc, cond_true] at hrest
            have hLr := Lib.hid hrest
            clear hrest hsb2
            go_wp2_with (go_at_call 87; refine hP.mono ?_; rintro e w3 ⟨rfl, G3, hf3, hlv3⟩; clear hP k0 k1; obtain ⟨k0, k1⟩ := hfold w3 G3 hf3; have hlook := look_map (hm2.fwd hf3) i; rw [hc, cond_true] at hlook)
            go_roundw
            case rel => exact ⟨j + 1, G3, seen2, hlt, congrArg _ (wrap_small hlt hLsz.out), hf2.trans (FwdX.ofFwd hf3), hlv3, hm2.fwd hf3, hLr.out⟩
            case measure => exact jOf_next hlt hLsz.out
          | false =>
            rw [hc, cond_false] at hrest
            cases hw : group_walk n l k i (seen2 ++ [i]) with
            | none => rw [hw] at hrest; cases hrest
            | some seen3 =>
            rw [hw, obind_some] at hrest
            have hLr := Lib.hid hrest
            clear hrest
            have hLc := Lib.hid hc
            have hIH : ∀ (w3 w4 : World) (G3 : Gh), Fwd G2 wr G3 w3 → Lv t G3 w3 → MapAt w4 bm (seen2 ++ [i]) → w4.os = w3.os → w4.tape = w3.tape → w4.output = w3.output → w4.heap.size = w3.heap.size → (∀ k, k ≠ bm → w4.heap[k]? = w3.heap[k]?) →
                FwdX bm G3 w3 G3 w4 ∧ w4.cell? ⟨sb, 0, none⟩ = some (.slice (some ⟨gb, go, none⟩) l.length gcap) ∧ w4.cell? ⟨sb, 1, none⟩ = some (.map (some bm)) ∧
                  Calls prog 104 #[.pointer (some ⟨sb, 0, none⟩), .int .i64 i] w4 (FromPost bm t G3 w4 seen3) := fun w3 w4 G3 hf3 hlv3 hm4 e1 e2 e3 e4 e5 => by
              have hfx := FwdX.map (G := G3) (hm2.fwd hf3) e1 e2 e3 e4 e5
              have h1 := (Array.getElem?_eq_some_iff.1 hsb2).1
              have hs4 : w4.heap[sb]? = some (.cells #[.slice (some ⟨gb, go, none⟩) l.length gcap, .map (some bm)] et (0, 0)) := by
                rw [e5 sb hsm, hf3.below.block sb h1]; exact hsb2
              refine ⟨hfx, (cell_sb (w := w4) hs4).1, (cell_sb (w := w4) hs4).2, ?_⟩
              exact from_sound n l k i (seen2 ++ [i]) seen3 t G3 w4 _ sb bm et (fun b hb => hlv3 b (by omega)) (hl2.adv (hf3.adv.trans hfx.adv)) hs4 hm4 hw
            clear hw hsb2
            go_wp2_with (first | (go_at_call 87; refine hP.mono ?_; rintro e w3 ⟨rfl, G3, hf3, hlv3⟩; clear hP k0 k1; obtain ⟨k0, k1⟩ := hfold w3 G3 hf3; have hlook := look_map (hm2.fwd hf3) i; rw [hLc.out, cond_false] at hlook; obtain ⟨w4, hput, hm4, e1, e2, e3, e4, e5⟩ := put_map (hm2.fwd hf3) i hLc.out; obtain ⟨hfx, q0, q1, hcal⟩ := hIH w3 w4 G3 hf3 hlv3 hm4 e1 e2 e3 e4 e5) | (go_at_call 104; refine hcal.mono ?_; rintro e w5 ⟨G5, rfl, hf5, hlv5, hm5⟩))
            go_roundw
            case rel => exact ⟨j + 1, G5, seen3, hlt, congrArg _ (wrap_small hlt hLsz.out), ((hf2.trans (FwdX.ofFwd hf3)).trans hfx).trans hf5, hlv5, hm5, hLr.out⟩
            case measure => exact jOf_next hlt hLsz.out
      · have hnil : names.drop j = [] := List.drop_eq_nil_of_le (by omega)
        rw [hnil] at hrest
        have hfin : seen2 = fin := Option.some.inj hrest
        subst hfin
        have hdec : decide (j < names.length) = false := decide_eq_false hlt
        clear hnil hrest
        go_wp2
        rw [Exit.noGoto_normal]
        go_end0
        exact ⟨G2, rfl, (FwdX.ofFwd hf1).trans hf2, hlv2, hm2⟩

theorem clear_map {w : World} {bm : Nat} {seen : List Int} (h : MapAt w bm seen) : ∃ w' : World, (∀ ty, (Builtin.clear_ #[147] ty #[.map (some bm)]).run prog w = .ok (.tuple #[]) w') ∧ MapAt w' bm [] ∧
    w'.os = w.os ∧ w'.tape = w.tape ∧ w'.output = w.output ∧ w'.heap.size = w.heap.size ∧ ∀ k, k ≠ bm → w'.heap[k]? = w.heap[k]? := by
  obtain ⟨es, clock, h1, h2, h3, h4⟩ := h
  have hg : (getObj bm).run prog w = .ok (.map es clock) w := by simp [getObj, Sem.run, h1]
  have hlt := (Array.getElem?_eq_some_iff.1 h1).1
  have hs : ∀ o' : Obj, (setObj bm o').run prog w = .ok () { w with heap := w.heap.setIfInBounds bm o' } := fun o' => by
    simp only [setObj, Sem.run, h1]
  refine ⟨{ w with heap := w.heap.setIfInBounds bm (.map #[] clock) }, fun ty => ?_, ⟨_, clock, Array.getElem?_setIfInBounds_self_of_lt hlt, by simp, by simp, by simp⟩, rfl, rfl, rfl, by simp, fun k hk => by
    show (w.heap.setIfInBounds bm _)[k]? = _
    rw [Array.getElem?_setIfInBounds_ne (Ne.symm hk)]⟩
  simp [Builtin.clear_, run_underlying underlying147, Result.andThen, hg, hs]

theorem next_map {w : World} {ib bm since c0 : Nat} {sn : Array Nat} {es : Array MapEntry} {clock : Nat} (ty : TypeId) (hi : w.heap[ib]? = some (.mapIter (some bm) since sn c0)) (hb : w.heap[bm]? = some (.map es clock)) (hold : ∀ x ∈ es.toList, x.born < since) (hsc : since ≤ c0) :
    ((leftOf es sn).size = 0 ∧ (Instr.next (.pointer (some ⟨ib, 0, none⟩)) false ty).run prog w = .ok (.tuple #[.bool false]) w) ∨
    ∃ e ∈ (leftOf es sn).toList, ∃ w1 : World, (Instr.next (.pointer (some ⟨ib, 0, none⟩)) false ty).run prog w = .ok (.tuple #[.bool true, e.key, e.val]) w1 ∧
      w1.os = w.os ∧ w1.tape = w.tape ∧ w1.output = w.output ∧ w1.heap.size = w.heap.size ∧ w1.heap[ib]? = some (.mapIter (some bm) since (sn.push e.born) clock) ∧ ∀ k, k ≠ ib → w1.heap[k]? = w.heap[k]? := by
  have hlt := (Array.getElem?_eq_some_iff.1 hi).1
  simp only [Instr.next, getObj, Sem.run_bind, Sem.run, hi, hb, Result.andThen, next_test_false sn es since c0 hold hsc, Bool.false_eq_true, if_false]
  unfold leftOf
  have hmem : ∀ x ∈ (Array.filter (fun e => !sn.contains e.born) es).toList, x.born < since := fun x hx => hold x (by simp at hx ⊢; exact hx.1)
  generalize Array.filter (fun e => !sn.contains e.born) es = L at hmem ⊢
  have e1 : L.filter (fun x => decide (x.born < since)) = L := Array.filter_eq_self.2 (fun x hx => by simpa using hmem x (by simpa using hx))
  have e2 : L.filter (fun x => decide (x.born ≥ since)) = #[] := by
    rw [Array.filter_eq_empty_iff]
    intro x hx
    have := hmem x (by simpa using hx)
    simp
    omega
  simp only [e1, e2, Array.append_empty]
  by_cases h0 : L.size = 0
  · left
    have : L = #[] := Array.eq_empty_of_size_eq_zero h0
    subst this
    refine ⟨rfl, ?_⟩
    simp [choose, Sem.run, Question.forced]
  · right
    have hne : L.isEmpty = false := by simp [Array.isEmpty, h0]
    simp only [hne, Bool.false_eq_true, if_false, Array.empty_append, Array.size_map]
    have hch : ∃ (j : Nat) (w1 : World), j < L.size ∧ w1.heap = w.heap ∧ w1.os = w.os ∧ w1.tape = w.tape ∧ w1.output = w.output ∧ (choose (Question.mapNext L.size)).run prog w = .ok j w1 := by
      by_cases hf : L.size ≤ 1
      · exact ⟨0, w, by omega, rfl, rfl, rfl, rfl, by simp [choose, Sem.run, Question.forced, hf]⟩
      · exact ⟨_, { w with drawn := w.drawn + 1 }, Nat.mod_lt _ (by omega), rfl, rfl, rfl, rfl, by
          simp only [choose, Sem.run, Question.forced, decide_eq_true_eq, hf, if_false, Question.cut]
          rfl⟩
    obtain ⟨j, w1, hj, q1, q2, q3, q4, hrun⟩ := hch
    have hset : ∀ (o' : Obj), (setObj ib o').run prog w1 = .ok () { w1 with heap := w1.heap.setIfInBounds ib o' } := fun o' => by
      simp only [setObj, Sem.run, q1, hi]
    refine ⟨L[j], by simp, { w1 with heap := w1.heap.setIfInBounds ib (.mapIter (some bm) since (sn.push L[j].born) clock) }, ?_, q2, q3, q4, by simp [q1], ?_, fun k hk => ?_⟩
    · simp only [hrun, Array.getElem?_map, Array.getElem?_eq_getElem hj, Option.map_some, Sem.run_bind, hset, Result.andThen]
      rfl
    · show (w1.heap.setIfInBounds ib _)[ib]? = _
      rw [q1]; exact Array.getElem?_setIfInBounds_self_of_lt hlt
    · show (w1.heap.setIfInBounds ib _)[k]? = _
      rw [Array.getElem?_setIfInBounds_ne (Ne.symm hk), q1]

theorem entry_map {w : World} {ib bm since : Nat} {sn : Array Nat} {es : Array MapEntry} {clock : Nat} {e : MapEntry} (hi : w.heap[ib]? = some (.mapIter (some bm) since (sn.push e.born) clock)) (hb : w.heap[bm]? = some (.map es clock)) (he : e ∈ es.toList) (hn : (es.toList.map (·.born)).Nodup) :
    (Instr.entry (.pointer (some ⟨ib, 0, none⟩))).run prog w = .ok (.tuple #[e.key, e.val]) w := by
  have hf : es.find? (·.born == e.born) = some e := by rw [← Array.find?_toList]; exact find_born e es.toList hn he
  simp only [Instr.entry, getObj, Sem.run_bind, Sem.run, hi, hb, Result.andThen, Array.back?_push, hf]
  simp

def LoopPost (t : Nat) (G : Gh) (w : World) (b : Bool) (e : Ending) (w' : World) : Prop := e = .returned (.bool b) ∧ ∃ G', Fwd G w G' w' ∧ Lv t G' w'
def Gn (G : Gh) (s : Nat) : Gh := fun b => if b < s then G b else .stays
theorem fwd_new {t : Nat} {G : Gh} {w w' : World} (hlv : Lv t G w) (h : Below w.heap.size w w') : Fwd G w (Gn G w.heap.size) w' ∧ Lv t (Gn G w.heap.size) w' :=
  ⟨⟨h, fun b hb => if_pos hb⟩, fun b _ => by
    by_cases hb : b < w.heap.size
    · have e : Gn G w.heap.size b = G b := if_pos hb
      rw [e]; exact hlv b hb
    · have e : Gn G w.heap.size b = .stays := if_neg hb
      rw [e]; trivial⟩
theorem two_new {w : World} {x y : Obj} : Below w.heap.size w ((w.alloc x).alloc y) ∧ ((w.alloc x).alloc y).heap[w.heap.size]? = some x ∧ ((w.alloc x).alloc y).heap[w.heap.size + 1]? = some y := by
  have hs : ∀ (u : World) (z : Obj), (u.alloc z).heap.size = u.heap.size + 1 := fun u z => by show (u.heap.push z).size = _; simp
  refine ⟨⟨rfl, rfl, rfl, by rw [hs, hs]; omega, fun k hk => ?_⟩, ?_, ?_⟩
  · rw [heap_alloc_old (w.alloc x) y (by rw [hs]; omega), heap_alloc_old w x hk]
  · rw [heap_alloc_old (w.alloc x) y (by rw [hs]; omega), heap_alloc_new]
  · have := heap_alloc_new (w.alloc x) y; rw [hs] at this; exact this
theorem one_new {w : World} {x : Obj} : Below w.heap.size w (w.alloc x) :=
  ⟨rfl, rfl, rfl, by show _ ≤ (w.heap.push x).size; simp, fun k hk => heap_alloc_old w x hk⟩
theorem MapAt.below {w w' : World} {bm : Nat} {seen : List Int} (h : MapAt w bm seen) (k : Below w.heap.size w w') : MapAt w' bm seen := by
  obtain ⟨es, clock, h1, h2, h3, h4⟩ := h
  exact ⟨es, clock, by rw [k.block bm (Array.getElem?_eq_some_iff.1 h1).1]; exact h1, h2, h3, h4⟩
theorem fwd_join {b : Nat} {G G1 G2 : Gh} {w w1 w2 : World} (h : Fwd G w G1 w1) (k : FwdX b G1 w1 G2 w2) (hb : w.heap.size ≤ b) : Fwd G w G2 w2 :=
  ⟨⟨k.os.trans h.below.os, k.tape.trans h.below.tape, k.output.trans h.below.output, Nat.le_trans h.below.size k.size, fun j hj => ((k.same j (Nat.lt_of_lt_of_le hj h.below.size) (by omega)).1).trans (h.below.block j hj)⟩,
   fun j hj => ((k.same j (Nat.lt_of_lt_of_le hj h.below.size) (by omega)).2).trans (h.own j hj)⟩
theorem mapAt_new {w : World} {bm : Nat} (h : w.heap[bm]? = some (.map #[] 0)) : MapAt w bm [] := ⟨#[], 0, h, by simp, by simp, by simp⟩
theorem key_mem {es : Array MapEntry} {sn : List Int} (h : es.toList.map (fun e => (e.key, e.val)) = sn.map (fun i => (Value.int .i64 i, Value.int .i64 1))) {e : MapEntry} (he : e ∈ es.toList) : ∃ a ∈ sn, e.key = .int .i64 a ∧ e.val = .int .i64 1 := by
  have : (e.key, e.val) ∈ es.toList.map (fun e => (e.key, e.val)) := List.mem_map.2 ⟨e, he, rfl⟩
  rw [h] at this
  obtain ⟨a, ha, e1⟩ := List.mem_map.1 this
  exact ⟨a, ha, (Prod.mk.inj e1).1.symm, (Prod.mk.inj e1).2.symm⟩
theorem mem_key {es : Array MapEntry} {sn : List Int} (h : es.toList.map (fun e => (e.key, e.val)) = sn.map (fun i => (Value.int .i64 i, Value.int .i64 1))) {a : Int} (ha : a ∈ sn) : ∃ e ∈ es.toList, e.key = .int .i64 a := by
  have : (Value.int .i64 a, Value.int .i64 1) ∈ es.toList.map (fun e => (e.key, e.val)) := by rw [h]; exact List.mem_map.2 ⟨a, ha, rfl⟩
  obtain ⟨e, he, e1⟩ := List.mem_map.1 this
  exact ⟨e, he, (Prod.mk.inj e1).1⟩
theorem iterSeen_of {w : World} {ib : Nat} {a : Option Nat} {b c : Nat} {s : Array Nat} (h : w.heap[ib]? = some (.mapIter a b s c)) : w.iterSeen ib = s := by
  unfold World.iterSeen; rw [h]
/-- What the loop over the map keeps. -/
def InRel (wb : World) (ib bm clock : Nat) (es : Array MapEntry) (l : List Group) (gid : Int) (wz : World) : Prop :=
  ∃ sn : Array Nat, wz.os = wb.os ∧ wz.tape = wb.tape ∧ wz.output = wb.output ∧ wz.heap.size = wb.heap.size ∧ wz.heap[ib]? = some (.mapIter (some bm) clock sn clock) ∧ (∀ k, k ≠ ib → wz.heap[k]? = wb.heap[k]?) ∧
    ∀ x ∈ es.toList, sn.contains x.born = true → ∀ a, x.key = .int .i64 a → (List.getD l a.toNat zG).1 ≠ gid
/-- What the loop over the groups keeps. -/
def LoopRel (n : Nat) (l : List Group) (gv : Value) (bm sb t : Nat) (G : Gh) (w : World) (fin : Bool) (i : Value) (wz : World) : Prop :=
  ∃ (j : Nat) (G' : Gh) (seen : List Int) (et : TypeId), j ≤ l.length ∧ i = .int .i64 j ∧ Fwd G w G' wz ∧ Lv t G' wz ∧ MapAt wz bm seen ∧ wz.heap[sb]? = some (.cells #[gv, .map (some bm)] et (0, 0)) ∧ group_LoopR n l (l.length - j) j = some fin

set_option maxRecDepth 1000000 in
theorem Loop_sound (n : Nat) (l : List Group) (fin : Bool) (t : Nat) (G : Gh) (w : World) (gv : Value) (hlv : Lv t G w) (hl : RepV G w (.slc TGroup) l gv) (h : group_Loop n l = some fin) :
    Calls prog 59 #[gv] w (LoopPost t G w fin) := by
  unfold group_Loop at h
  cases hsz : decide (l.length ≤ 140737488355328) with
  | false => rw [hsz] at h; cases h
  | true =>
  rw [hsz, cond_true] at h
  have hLsz : RowKit.Hid ((l.length : Int) < 4611686018427387904) := Lib.hid (by have := of_decide_eq_true hsz; omega)
  clear hsz
  obtain ⟨gao, gcap, rfl, gcle, grow⟩ := RepV.slc hl
  have hmm := fun t w => @Go.RowKit.run_makeMap prog t w
  have hLh := Lib.hid h
  clear h
  go_enter func59, ntmps59
  go_wp2
  go_loopw [13] (fun i w' => LoopRel n l (.slice gao l.length gcap) w.heap.size (w.heap.size + 1) t G w fin i w') (fun i _ => l.length - jOf i)
  case atStart =>
    obtain ⟨q1, q2, q3⟩ := @two_new w (Obj.map #[] 0) (Obj.cells #[Value.slice gao l.length gcap, Value.map (some w.heap.size)] 149)
    obtain ⟨p1, p2⟩ := fwd_new hlv q1
    exact ⟨0, _, [], 149, Nat.zero_le _, rfl, p1, p2, mapAt_new q2, q3, hLh.out⟩
  case round =>
    obtain ⟨j, G2, seen2, et, hj, rfl, hf2, hlv2, hm2, hsb2, hrest⟩ := hrel
    have hl2 := hl.adv hf2.adv
    by_cases hlt : j < l.length
    · have hdec : decide (j < l.length) = true := decide_eq_true hlt
      cases gao with
      | none => simp only at grow; omega
      | some gad =>
      obtain ⟨gsp, css, hcs, hgc⟩ := grow
      obtain ⟨gb, go, gspot⟩ := gad
      have gsp : gspot = none := gsp.resolve_right (by omega)
      subst gsp
      obtain ⟨it1, it2⟩ := hcs.item j hlt
      have hrep : Rep G w TGroup (List.getD l j zG) ((css.flatten.drop (j * 3)).take 3) := it1
      obtain ⟨c1, cr, e1, r1, r2⟩ := hrep
      obtain ⟨c2, c3, e2, r3, r4⟩ := r2
      have r1 : c1 = [.int .i64 (List.getD l j zG).1] := r1
      have r3 : c2 = [.int .i64 (List.getD l j zG).2.1] := r3
      have r4 : Rep G w (.slc TBucket) (List.getD l j zG).2.2 c3 := r4
      obtain ⟨bv, hbv1, hbv2⟩ := r4.leaf rfl
      subst r1 r3 hbv1
      obtain ⟨bao, bcp, rfl, _⟩ := RepV.slc (RepV.of_leaf r4 rfl)
      have hadv := hf2.adv
      have hcell : ∀ (o : Nat) (v : Value), css.flatten[o]? = some v → wr.cell? ⟨gb, go + o, none⟩ = some v := fun o v ho => (hadv.cell _ _ _ (hgc o v ho).1 (hgc o v ho).2).1
      have g3 : ∀ (o : Nat) (v : Value), ((css.flatten.drop (j * 3)).take 3)[o]? = some v → css.flatten[j * 3 + o]? = some v := fun o v ho => by
        rw [List.getElem?_take] at ho
        split at ho
        · rw [List.getElem?_drop] at ho; exact ho
        · cases ho
      obtain ⟨gid, hgid⟩ : ∃ x, x = (List.getD l j zG).1 := ⟨_, rfl⟩
      obtain ⟨gx, hgx⟩ : ∃ x, x = (List.getD l j zG).2.1 := ⟨_, rfl⟩
      obtain ⟨gn, hgn⟩ : ∃ x, x = (List.getD l j zG).2.2.length := ⟨_, rfl⟩
      rw [← hgid] at e1
      rw [← hgx, ← hgn] at e2
      have k0 : wr.cell? ⟨gb, go + j * 3, none⟩ = some (.int .i64 gid) := hcell (j * 3) _ (g3 0 _ (by rw [e1, e2]; rfl))
      have k1 : wr.cell? ⟨gb, go + j * 3 + 1, none⟩ = some (.int .i64 gx) := hcell (j * 3 + 1) _ (g3 1 _ (by rw [e1, e2]; rfl))
      have k2 : wr.cell? ⟨gb, go + j * 3 + 2, none⟩ = some (.slice bao gn bcp) := hcell (j * 3 + 2) _ (g3 2 _ (by rw [e1, e2]; rfl))
      have hr : l.length - j = (l.length - (j + 1)) + 1 := by omega
      rw [hr] at hrest
      unfold group_LoopR at hrest
      cases hw : group_walk n l n j [] with
      | none => rw [hw] at hrest; cases hrest
      | some sn =>
      rw [hw, obind_some] at hrest
      cases hall : sn.all (fun a => inRange a l.length) with
      | false => rw [hall] at hrest; cases hrest
      | true =>
      rw [hall, cond_true] at hrest
      have hLr := Lib.hid hrest
      clear hrest hr
      -- the group's box
      obtain ⟨w3, hw3e⟩ : ∃ x : World, x = wr.alloc (.cells #[.int .i64 gid, .int .i64 gx, .slice bao gn bcp] 82 (0, 0)) := ⟨_, rfl⟩
      have hw3 : Below wr.heap.size wr w3 := hw3e ▸ one_new
      have hbx3 : w3.heap[wr.heap.size]? = some (.cells #[.int .i64 gid, .int .i64 gx, .slice bao gn bcp] 82 (0, 0)) := hw3e ▸ heap_alloc_new _ _
      have hm3 := hm2.below hw3
      obtain ⟨w4, hcl, hm4, p1, p2, p3, p4, p5⟩ := clear_map hm3
      obtain ⟨hf3, hlv3⟩ := fwd_new hlv2 hw3
      have hfx := FwdX.map (G := Gn G2 wr.heap.size) hm3 p1 p2 p3 p4 p5
      have hlt2 := (Array.getElem?_eq_some_iff.1 hsb2).1
      have hs3 := (hw3.block _ hlt2).trans hsb2
      have hs4 : w4.heap[w.heap.size + 1]? = _ := (p5 _ (by omega)).trans hs3
      have hl4 := hl2.adv (hf3.adv.trans hfx.adv)
      have hcal := from_sound n l n j [] sn t _ w4 _ _ _ et (fun b hb => hlv3 b (by omega)) hl4 hs4 hm4 hw
      obtain ⟨k3, k4⟩ := cell_sb hs3
      obtain ⟨k5, k6⟩ := cell_sb hs4
      rw [hw3e] at hcl k3 k4
      have hLall := Lib.hid hall
      have hids : ∀ an, an < l.length → ∃ v, css.flatten[an * 3]? = some v ∧ v = .int .i64 (List.getD l an zG).1 := fun an han => by
        obtain ⟨a1, _⟩ := hcs.item an han
        have a2 : Rep G w TGroup (List.getD l an zG) ((css.flatten.drop (an * 3)).take 3) := a1
        obtain ⟨d1, d2, d3, d4, _⟩ := a2
        have d4 : d1 = [.int .i64 (List.getD l an zG).1] := d4
        have d5 : ((css.flatten.drop (an * 3)).take 3)[0]? = some (.int .i64 (List.getD l an zG).1) := by rw [d3, d4]; rfl
        rw [List.getElem?_take, if_pos (by omega), List.getElem?_drop] at d5
        exact ⟨_, d5, rfl⟩
      have hLids := Lib.hid hids
      have hLgc := Lib.hid hgc
      have hLid := Lib.hid hgid
      clear hids hcs it1 it2 r1 r3 r4 e1 e2 g3 hcell hgc hgid hgx hgn hw hall
      go_wp2_with (first | (go_at_call 104; refine hcal.mono ?_; rintro e w5 ⟨G5, rfl, hf5, hlv5, es, clock, m1, m2, m3, m4⟩; have hs5 : w5.heap[w.heap.size + 1]? = _ := (hf5.same _ (by have := (Array.getElem?_eq_some_iff.1 hs4).1; exact this) (by omega)).1.trans hs4; obtain ⟨k7, k8⟩ := cell_sb hs5; have hrg := run_range_map (P := prog) w5 147 3 3 w.heap.size es clock underlying147 m1))
      have hbm5 := (Array.getElem?_eq_some_iff.1 m1).1
      have hbx4 : w4.heap[wr.heap.size]? = _ := (p5 _ (by have := hf2.below.size; have := (Array.getElem?_eq_some_iff.1 hsb2).1; omega)).trans hbx3
      have hbx5 : w5.heap[wr.heap.size]? = _ := (hf5.same _ (Array.getElem?_eq_some_iff.1 hbx4).1 (by have := hf2.below.size; have := (Array.getElem?_eq_some_iff.1 hsb2).1; omega)).1.trans hbx4
      have hfin : ∀ wz : World, wz.os = w5.os → wz.tape = w5.tape → wz.output = w5.output → wz.heap.size = w5.heap.size + 1 → (∀ k, k ≠ w5.heap.size → wz.heap[k]? = (w5.alloc (.mapIter (some w.heap.size) clock #[] clock)).heap[k]?) →
          (∃ G6, Fwd G w G6 wz ∧ Lv t G6 wz) ∧ wz.heap[w.heap.size]? = some (.map es clock) ∧ wz.heap[w.heap.size + 1]? = some (.cells #[.slice (some ⟨gb, go, none⟩) l.length gcap, .map (some w.heap.size)] et (0, 0)) ∧
            wz.cell? ⟨wr.heap.size, 0, none⟩ = some (.int .i64 gid) ∧ ∀ an, an < l.length → wz.cell? ⟨gb, go + an * 3, none⟩ = some (.int .i64 (List.getD l an zG).1) := fun wz o1 o2 o3 o4 o6 => by
        have hold : ∀ k, k < w5.heap.size → wz.heap[k]? = w5.heap[k]? := fun k hk => (o6 k (by omega)).trans (heap_alloc_old w5 _ hk)
        have hB : Below w5.heap.size w5 wz := ⟨o1, o2, o3, by omega, hold⟩
        obtain ⟨hf6, hlv6⟩ := fwd_new hlv5 hB
        have hX := (((FwdX.ofFwd hf3).trans hfx).trans hf5).trans (FwdX.ofFwd hf6)
        have hF := fwd_join hf2 hX (Nat.le_refl _)
        refine ⟨⟨_, hF, hlv6⟩, (hold _ hbm5).trans m1, (hold _ (Array.getElem?_eq_some_iff.1 hs5).1).trans hs5, ?_, fun an han => ?_⟩
        · have := (hold _ (Array.getElem?_eq_some_iff.1 hbx5).1).trans hbx5
          simp [World.cell?, this]
        · obtain ⟨v, hv1, rfl⟩ := hLids.out an han
          exact (hF.adv.cell _ _ _ (hLgc.out _ _ hv1).1 (hLgc.out _ _ hv1).2).1
      have hLfin := Lib.hid hfin
      have hLany : RowKit.Hid (∀ b : Bool, sn.any (fun a => decide ((List.getD l a.toNat zG).1 = gid)) = b → (bif b then some true else group_LoopR n l (l.length - (j + 1)) (j + 1)) = some fin) := Lib.hid (fun b hb => by
        have := hLr.out
        rw [← hLid.out, hb] at this
        exact this)
      have hLm := Lib.hid (And.intro m2 (And.intro m3 m4))
      clear hfin hbx5 hbx4 hf5 hlv5 m1 m2 m3 m4 hfx hf3 hlv3 hs5 hs4 hs3 hm4 hm3 hw3 hbx3 k0 k1 k2 k3 k4 k5 k6 k7 k8 hcl hmm hrg hf2 hlv2 hl2 hm2 hsb2
      go_loopw [] (fun wz => InRel (w5.alloc (.mapIter (some w.heap.size) clock #[] clock)) w5.heap.size w.heap.size clock es l gid wz) (fun wz => (leftOf es (wz.iterSeen w5.heap.size)).size)
      case atStart => exact ⟨#[], rfl, rfl, rfl, rfl, heap_alloc_new _ _, fun _ _ => rfl, fun x _ h => by simp at h⟩
      case round =>
        obtain ⟨ss, o1, o2, o3, o4, o5, o6, hno⟩ := hrel
        have o4' : wr.heap.size = w5.heap.size + 1 := o4.trans (by show (w5.heap.push _).size = _; simp)
        obtain ⟨⟨G6, hF6, hlv6⟩, hb6, hs6, kx6, kl6⟩ := hLfin.out wr o1 o2 o3 o4' o6
        rcases next_map 0 o5 hb6 hLm.out.1 (Nat.le_refl _) with ⟨h0, hrun⟩ | ⟨e, he, w7, hrun, q1, q2, q3, q4, q5, q6⟩
        · have hnx : ∀ ty, (Instr.next (.pointer (some ⟨w5.heap.size, 0, none⟩)) false ty).run prog wr = _ := fun _ => hrun
          have hLno := Lib.hid hno
          clear hno o6 kl6
          go_wp2
          go_roundw
          case rel =>
            refine ⟨j + 1, G6, sn, et, hlt, congrArg _ (wrap_small hlt hLsz.out), hF6, hlv6, ⟨es, clock, hb6, hLm.out.1, hLm.out.2.1, hLm.out.2.2⟩, hs6, hLany.out false ?_⟩
            rw [List.any_eq_false]
            intro a ha
            obtain ⟨e, he, hk⟩ := mem_key hLm.out.2.2 ha
            have := hLno.out e he (all_seen es ss h0 e he) a hk
            simpa using this
          case measure => exact jOf_next hlt hLsz.out
        · obtain ⟨a, ha, hk, hv⟩ := key_mem hLm.out.2.2 (mem_left he).1
          have hra : inRange a l.length = true := List.all_eq_true.1 hLall.out a ha
          have hra : 0 ≤ a ∧ a < (l.length : Int) := by simpa [inRange] using hra
          obtain ⟨an, rfl⟩ := Int.eq_ofNat_of_zero_le hra.1
          have han : an < l.length := by omega
          rw [hk, hv] at hrun
          have hnx : ∀ ty, (Instr.next (.pointer (some ⟨w5.heap.size, 0, none⟩)) false ty).run prog wr = _ := fun _ => hrun
          have hb7 : w7.heap[w.heap.size]? = _ := (q6 _ (by omega)).trans hb6
          have hen := entry_map q5 hb7 (mem_left he).1 hLm.out.2.1
          rw [hk, hv] at hen
          have o6' : ∀ k, k ≠ w5.heap.size → w7.heap[k]? = (w5.alloc (.mapIter (some w.heap.size) clock #[] clock)).heap[k]? := fun k hk => (q6 k hk).trans (o6 k hk)
          have hLo := Lib.hid (And.intro (q1.trans o1) (And.intro (q2.trans o2) (And.intro (q3.trans o3) (And.intro (q4.trans o4') (And.intro o6' (q4.trans o4))))))
          obtain ⟨_, _, _, kx7, kl7⟩ := hLfin.out w7 (q1.trans o1) (q2.trans o2) (q3.trans o3) (q4.trans o4') o6'
          replace kl7 := kl7 an han
          obtain ⟨aid, haid⟩ : ∃ x, x = (List.getD l an zG).1 := ⟨_, rfl⟩
          rw [← haid] at kl7
          have hLno := Lib.hid hno
          have hLq5 := Lib.hid q5
          have hLo5 := Lib.hid o5
          have hLaid := Lib.hid haid
          have hLe := Lib.hid he
          have hLk := Lib.hid hk
          clear hno q5 o5 haid he hk hv o6 o6' o1 o2 o3 o4 o4' q1 q2 q3 q4 q6 kl6 kx6 hb6 hs6 hF6 hlv6 hb7 hrun
          by_cases heq : aid = gid
          · have hbq : (aid == gid) = true := beq_iff_eq.2 heq
            have hLeq := Lib.hid heq
            clear heq
            go_wp2
            go_quiet (fail)
            go_wp2
            go_ret
            obtain ⟨⟨G7, hF7, hlv7⟩, _⟩ := hLfin.out (w7.drewN nq) hLo.out.1 hLo.out.2.1 hLo.out.2.2.1 hLo.out.2.2.2.1 hLo.out.2.2.2.2.1
            have hany : sn.any (fun a => decide ((List.getD l a.toNat zG).1 = gid)) = true := List.any_eq_true.2 ⟨an, ha, by
              rw [Int.toNat_natCast, ← hLaid.out]
              exact decide_eq_true hLeq.out⟩
            have hfb : fin = true := (Option.some.inj (hLany.out true hany)).symm
            subst hfb
            exact ⟨rfl, G7, hF7, hlv7⟩
          · have hbq : (aid == gid) = false := beq_eq_false_iff_ne.2 heq
            have hLne := Lib.hid heq
            clear heq
            go_wp2
            go_quiet (fail)
            go_wp2
            go_roundw
            case rel =>
              refine ⟨ss.push e.born, hLo.out.1, hLo.out.2.1, hLo.out.2.2.1, hLo.out.2.2.2.2.2, hLq5.out, hLo.out.2.2.2.2.1, fun x hx hc b hb => ?_⟩
              rw [contains_push] at hc
              rcases Bool.or_eq_true _ _ ▸ hc with h1 | h1
              · exact hLno.out x hx h1 b hb
              · have : x = e := born_inj hLm.out.2.1 hx (mem_left hLe.out).1 (beq_iff_eq.1 h1)
                subst this
                rw [hLk.out] at hb
                cases hb
                rw [Int.toNat_natCast, ← hLaid.out]
                exact hLne.out
            case measure =>
              rw [iterSeen_of (w := w7.drewN nq) hLq5.out, iterSeen_of hLo5.out]
              exact left_shrinks es ss e hLe.out
    · have hdec : decide (j < l.length) = false := decide_eq_false hlt
      have hj0 : l.length - j = 0 := by omega
      rw [hj0] at hrest
      have hfb : fin = false := (Option.some.inj hrest).symm
      subst hfb
      clear hrest hj0 grow
      go_wp2
      go_ret
      exact ⟨rfl, G2, hf2, hlv2⟩

def group_Loop.ps : List PTy := [.data (.slc TGroup)]
def group_Loop.rs : List RTy := [.data .bool]
noncomputable def group_Loop.e (n : Nat) : Ent := ⟨group_Loop.ps, group_Loop.rs, fun x => group_Loop n x⟩
theorem group_Loop.sound (n : Nat) : SoundE prog 59 (group_Loop.e n) := by
  refine ⟨⟨f59, func59, by kernel_rfl, by kernel_rfl⟩, fun m t G w _ hlv xs vs hv r h => ?_⟩
  obtain ⟨gv, rfl, hl⟩ := hv
  have hc := Loop_sound n xs r t G w gv hlv hl h
  refine hc.mono ?_
  rintro e w' ⟨rfl, G', h1, h2⟩
  exact ⟨[.bool r], G', rfl, h1, h2, .bool r, rfl, RepV.mk_bool r⟩

def group_put.rs : List RTy := [.data (.slc TGroup), .data TFault]
def group_put.ps : List PTy := [.data (.slc TGroup), .data (.int .i64), .data TGroupMod]
noncomputable def group_put.e (n : Nat) : Ent := ⟨group_put.ps, group_put.rs, fun x => group_put n x.1 x.2.1 x.2.2⟩
noncomputable def group_put.C (n : Nat) : Ctx := { tab := tab, fts := fts, pts := pts, Γ := lookO [(59, group_Loop.e n), (63, group_Check.e n), (88, group_bad.e n), (97, group_there.e n), (99, group_fresh.e n), (139, group_copies.e n)], Γc := lookO [], Γs := lookO [], Γm := lookO [], Γo := lookO [], Γd := lookO [], ntmps := f91.ntmps, keep := Vi.look ([], []) [], pins := [] }
theorem group_put.ok (n : Nat) : CtxOk prog (group_put.C n) := ⟨types, ftsOk_, ptsOk_, (fns_cons (group_Loop.sound n) (fns_cons (group_Check.sound n) (fns_cons (group_bad.sound n) (fns_cons (group_there.sound n) (fns_cons (group_fresh.sound n) (fns_cons (group_copies.sound n) fns_nil)))))), cls_nil, sqs_nil, ems_nil, mixed, ons_nil, des_nil⟩
theorem group_put.eq (n : Nat) (x : pdens group_put.ps) : Vi.run (group_put.C n) n f91 group_put.ps group_put.rs x = group_put n x.1 x.2.1 x.2.2 := by kernel_rfl
theorem group_put.sound (n : Nat) : SoundE prog 91 (group_put.e n) :=
  soundE_of_run (C := group_put.C n) (n := n) (group_put.ok n) func91 (by kernel_rfl) (by kernel_rfl) (fun x r h => (group_put.eq n x).trans h)

def group_Do.rs : List RTy := [.data (.slc TGroup), .data TFault]
def group_Do.ps : List PTy := [.data (.slc TGroup), .data TGroupMod]
noncomputable def group_Do.e (n : Nat) : Ent := ⟨group_Do.ps, group_Do.rs, fun x => group_Do n x.1 x.2⟩
noncomputable def group_Do.C (n : Nat) : Ctx := { tab := tab, fts := fts, pts := pts, Γ := lookO [(87, group_place.e n), (88, group_bad.e n), (89, group_drop.e n), (90, group_numbered.e n), (91, group_put.e n)], Γc := lookO [], Γs := lookO [], Γm := lookO [], Γo := lookO [], Γd := lookO [], ntmps := f43.ntmps, keep := Vi.look ([], []) [], pins := [] }
theorem group_Do.ok (n : Nat) : CtxOk prog (group_Do.C n) := ⟨types, ftsOk_, ptsOk_, (fns_cons (group_place.sound n) (fns_cons (group_bad.sound n) (fns_cons (group_drop.sound n) (fns_cons (group_numbered.sound n) (fns_cons (group_put.sound n) fns_nil))))), cls_nil, sqs_nil, ems_nil, mixed, ons_nil, des_nil⟩
theorem group_Do.eq (n : Nat) (x : pdens group_Do.ps) : Vi.run (group_Do.C n) n f43 group_Do.ps group_Do.rs x = group_Do n x.1 x.2 := by kernel_rfl
theorem group_Do.sound (n : Nat) : SoundE prog 43 (group_Do.e n) :=
  soundE_of_run (C := group_Do.C n) (n := n) (group_Do.ok n) func43 (by kernel_rfl) (by kernel_rfl) (fun x r h => (group_Do.eq n x).trans h)

def group_Find.rs : List RTy := [.data TGroup, .data .bool]
def group_Find.ps : List PTy := [.data (.slc TGroup), .data (.int .i64)]
noncomputable def group_Find.e (n : Nat) : Ent := ⟨group_Find.ps, group_Find.rs, fun x => group_Find n x.1 x.2⟩
noncomputable def group_Find.C (n : Nat) : Ctx := { tab := tab, fts := fts, pts := pts, Γ := lookO [(87, group_place.e n), (99, group_fresh.e n)], Γc := lookO [], Γs := lookO [], Γm := lookO [], Γo := lookO [], Γd := lookO [], ntmps := f49.ntmps, keep := Vi.look ([], []) [], pins := [] }
theorem group_Find.ok (n : Nat) : CtxOk prog (group_Find.C n) := ⟨types, ftsOk_, ptsOk_, (fns_cons (group_place.sound n) (fns_cons (group_fresh.sound n) fns_nil)), cls_nil, sqs_nil, ems_nil, mixed, ons_nil, des_nil⟩
theorem group_Find.eq (n : Nat) (x : pdens group_Find.ps) : Vi.run (group_Find.C n) n f49 group_Find.ps group_Find.rs x = group_Find n x.1 x.2 := by kernel_rfl
theorem group_Find.sound (n : Nat) : SoundE prog 49 (group_Find.e n) :=
  soundE_of_run (C := group_Find.C n) (n := n) (group_Find.ok n) func49 (by kernel_rfl) (by kernel_rfl) (fun x r h => (group_Find.eq n x).trans h)

def group_Right.rs : List RTy := [.data .bool]
def group_Right.ps : List PTy := [.data (.slc TGroup)]
noncomputable def group_Right.e (n : Nat) : Ent := ⟨group_Right.ps, group_Right.rs, fun x => group_Right n x⟩
noncomputable def group_Right.C (n : Nat) : Ctx := { tab := tab, fts := fts, pts := pts, Γ := lookO [(59, group_Loop.e n), (63, group_Check.e n), (87, group_place.e n), (90, group_numbered.e n), (97, group_there.e n)], Γc := lookO [], Γs := lookO [], Γm := lookO [], Γo := lookO [], Γd := lookO [], ntmps := f46.ntmps, keep := Vi.look ([], []) [(4, ([0, 12, 13, 14], []))], pins := [] }
theorem group_Right.ok (n : Nat) : CtxOk prog (group_Right.C n) := ⟨types, ftsOk_, ptsOk_, (fns_cons (group_Loop.sound n) (fns_cons (group_Check.sound n) (fns_cons (group_place.sound n) (fns_cons (group_numbered.sound n) (fns_cons (group_there.sound n) fns_nil))))), cls_nil, sqs_nil, ems_nil, mixed, ons_nil, des_nil⟩
noncomputable def group_Right.code : Code := bodyOf f46
theorem group_Right.l0.step (n : Nat) (m0 : Nat) (l_1 : (List Group)) (v12 : (List Group)) (v13 : Int) (v14 : Int) : it (EmR.no _) (group_Right.C n) n (Code.go group_Right.code [1, 1, 0, 1, 0, 0]) (blockK 0 (seqK (EmR.no _) (group_Right.C n) n (Code.go group_Right.code [1, 1, 1]) (bodyK (group_Right.C n) f46 group_Right.rs))) (m0 + 1) ⟨[(0, .dat (.slc TGroup) l_1), (12, .dat (.slc TGroup) v12), (13, .dat (.int .i64) v13), (14, .dat (.int .i64) v14)], []⟩ = group_Right.s0 n (fun (v14' : Int) => it (EmR.no _) (group_Right.C n) n (Code.go group_Right.code [1, 1, 0, 1, 0, 0]) (blockK 0 (seqK (EmR.no _) (group_Right.C n) n (Code.go group_Right.code [1, 1, 1]) (bodyK (group_Right.C n) f46 group_Right.rs))) m0 ⟨[(0, .dat (.slc TGroup) l_1), (12, .dat (.slc TGroup) v12), (13, .dat (.int .i64) v13), (14, .dat (.int .i64) (v14'))], []⟩) l_1 v12 v13 v14 := by kernel_rfl
theorem group_Right.l0.eq (n : Nat) (l_1 : (List Group)) (v12 : (List Group)) (v13 : Int) : ∀ (m0 : Nat) (v14 : Int), it (EmR.no _) (group_Right.C n) n (Code.go group_Right.code [1, 1, 0, 1, 0, 0]) (blockK 0 (seqK (EmR.no _) (group_Right.C n) n (Code.go group_Right.code [1, 1, 1]) (bodyK (group_Right.C n) f46 group_Right.rs))) m0 ⟨[(0, .dat (.slc TGroup) l_1), (12, .dat (.slc TGroup) v12), (13, .dat (.int .i64) v13), (14, .dat (.int .i64) v14)], []⟩ = group_Right.l0 n l_1 v12 v13 m0 v14
  | 0, _ => rfl
  | m0 + 1, v14 =>
    (group_Right.l0.step n m0 l_1 v12 v13 v14).trans (congr1 (fun k0 => group_Right.s0 n k0 l_1 v12 v13 v14) (funext fun v14' => group_Right.l0.eq n l_1 v12 v13 m0 v14'))
theorem group_Right.run0 (n : Nat) (x : pdens group_Right.ps) : Vi.run (group_Right.C n) n f46 group_Right.ps group_Right.rs x = group_Right.s n (fun (l_1' : (List Group)) (v12' : (List Group)) (v13' : Int) (v14' : Int) => it (EmR.no _) (group_Right.C n) n (Code.go group_Right.code [1, 1, 0, 1, 0, 0]) (blockK 0 (seqK (EmR.no _) (group_Right.C n) n (Code.go group_Right.code [1, 1, 1]) (bodyK (group_Right.C n) f46 group_Right.rs))) n ⟨[(0, .dat (.slc TGroup) (l_1')), (12, .dat (.slc TGroup) (v12')), (13, .dat (.int .i64) (v13')), (14, .dat (.int .i64) (v14'))], []⟩) x := by kernel_rfl
theorem group_Right.eq (n : Nat) (x : pdens group_Right.ps) : Vi.run (group_Right.C n) n f46 group_Right.ps group_Right.rs x = group_Right n x :=
  (group_Right.run0 n x).trans (congr1 (fun k0 => group_Right.s n k0 x) (funext fun l_1' => funext fun v12' => funext fun v13' => funext fun v14' => group_Right.l0.eq n l_1' v12' v13' n v14'))
theorem group_Right.sound (n : Nat) : SoundE prog 46 (group_Right.e n) :=
  soundE_of_run (C := group_Right.C n) (n := n) (group_Right.ok n) func46 (by kernel_rfl) (by kernel_rfl) (fun x r h => (group_Right.eq n x).trans h)

def slices_EqualFunc_Group.rs : List RTy := [.data .bool]
def slices_EqualFunc_Group.ps : List PTy := [.data (.slc TGroup), .data (.slc TGroup), .fnp [TGroup, TGroup] [.bool]]
noncomputable def slices_EqualFunc_Group.e (n : Nat) : Ent := ⟨slices_EqualFunc_Group.ps, slices_EqualFunc_Group.rs, fun x => slices_EqualFunc_Group n x.1 x.2.1 x.2.2⟩
noncomputable def slices_EqualFunc_Group.C (n : Nat) : Ctx := { tab := tab, fts := fts, pts := pts, Γ := lookO [], Γc := lookO [], Γs := lookO [], Γm := lookO [], Γo := lookO [], Γd := lookO [], ntmps := f102.ntmps, keep := Vi.look ([], []) [(4, ([1, 2, 15, 16, 17], []))], pins := [] }
theorem slices_EqualFunc_Group.ok (n : Nat) : CtxOk prog (slices_EqualFunc_Group.C n) := ⟨types, ftsOk_, ptsOk_, fns_nil, cls_nil, sqs_nil, ems_nil, mixed, ons_nil, des_nil⟩
noncomputable def slices_EqualFunc_Group.code : Code := bodyOf f102
theorem slices_EqualFunc_Group.l0.step (n : Nat) (m0 : Nat) (s2_1 : (List Group)) (eq_1 : ((Group × Group) → Option Bool)) (v15 : (List Group)) (v16 : Int) (v17 : Int) : it (EmR.no _) (slices_EqualFunc_Group.C n) n (Code.go slices_EqualFunc_Group.code [1, 1, 0, 1, 0, 0]) (blockK 0 (seqK (EmR.no _) (slices_EqualFunc_Group.C n) n (Code.go slices_EqualFunc_Group.code [1, 1, 1]) (bodyK (slices_EqualFunc_Group.C n) f102 slices_EqualFunc_Group.rs))) (m0 + 1) ⟨[(1, .dat (.slc TGroup) s2_1), (2, .fn [TGroup, TGroup] [.bool] eq_1), (15, .dat (.slc TGroup) v15), (16, .dat (.int .i64) v16), (17, .dat (.int .i64) v17)], []⟩ = slices_EqualFunc_Group.s0 n (fun (v17' : Int) => it (EmR.no _) (slices_EqualFunc_Group.C n) n (Code.go slices_EqualFunc_Group.code [1, 1, 0, 1, 0, 0]) (blockK 0 (seqK (EmR.no _) (slices_EqualFunc_Group.C n) n (Code.go slices_EqualFunc_Group.code [1, 1, 1]) (bodyK (slices_EqualFunc_Group.C n) f102 slices_EqualFunc_Group.rs))) m0 ⟨[(1, .dat (.slc TGroup) s2_1), (2, .fn [TGroup, TGroup] [.bool] eq_1), (15, .dat (.slc TGroup) v15), (16, .dat (.int .i64) v16), (17, .dat (.int .i64) (v17'))], []⟩) s2_1 eq_1 v15 v16 v17 := by kernel_rfl
theorem slices_EqualFunc_Group.l0.eq (n : Nat) (s2_1 : (List Group)) (eq_1 : ((Group × Group) → Option Bool)) (v15 : (List Group)) (v16 : Int) : ∀ (m0 : Nat) (v17 : Int), it (EmR.no _) (slices_EqualFunc_Group.C n) n (Code.go slices_EqualFunc_Group.code [1, 1, 0, 1, 0, 0]) (blockK 0 (seqK (EmR.no _) (slices_EqualFunc_Group.C n) n (Code.go slices_EqualFunc_Group.code [1, 1, 1]) (bodyK (slices_EqualFunc_Group.C n) f102 slices_EqualFunc_Group.rs))) m0 ⟨[(1, .dat (.slc TGroup) s2_1), (2, .fn [TGroup, TGroup] [.bool] eq_1), (15, .dat (.slc TGroup) v15), (16, .dat (.int .i64) v16), (17, .dat (.int .i64) v17)], []⟩ = slices_EqualFunc_Group.l0 n s2_1 eq_1 v15 v16 m0 v17
  | 0, _ => rfl
  | m0 + 1, v17 =>
    (slices_EqualFunc_Group.l0.step n m0 s2_1 eq_1 v15 v16 v17).trans (congr1 (fun k0 => slices_EqualFunc_Group.s0 n k0 s2_1 eq_1 v15 v16 v17) (funext fun v17' => slices_EqualFunc_Group.l0.eq n s2_1 eq_1 v15 v16 m0 v17'))
theorem slices_EqualFunc_Group.run0 (n : Nat) (x : pdens slices_EqualFunc_Group.ps) : Vi.run (slices_EqualFunc_Group.C n) n f102 slices_EqualFunc_Group.ps slices_EqualFunc_Group.rs x = slices_EqualFunc_Group.s n (fun (s2_1' : (List Group)) (eq_1' : ((Group × Group) → Option Bool)) (v15' : (List Group)) (v16' : Int) (v17' : Int) => it (EmR.no _) (slices_EqualFunc_Group.C n) n (Code.go slices_EqualFunc_Group.code [1, 1, 0, 1, 0, 0]) (blockK 0 (seqK (EmR.no _) (slices_EqualFunc_Group.C n) n (Code.go slices_EqualFunc_Group.code [1, 1, 1]) (bodyK (slices_EqualFunc_Group.C n) f102 slices_EqualFunc_Group.rs))) n ⟨[(1, .dat (.slc TGroup) (s2_1')), (2, .fn [TGroup, TGroup] [.bool] (eq_1')), (15, .dat (.slc TGroup) (v15')), (16, .dat (.int .i64) (v16')), (17, .dat (.int .i64) (v17'))], []⟩) x.1 x.2.1 x.2.2 := by kernel_rfl
theorem slices_EqualFunc_Group.eq (n : Nat) (x : pdens slices_EqualFunc_Group.ps) : Vi.run (slices_EqualFunc_Group.C n) n f102 slices_EqualFunc_Group.ps slices_EqualFunc_Group.rs x = slices_EqualFunc_Group n x.1 x.2.1 x.2.2 :=
  (slices_EqualFunc_Group.run0 n x).trans (congr1 (fun k0 => slices_EqualFunc_Group.s n k0 x.1 x.2.1 x.2.2) (funext fun s2_1' => funext fun eq_1' => funext fun v15' => funext fun v16' => funext fun v17' => slices_EqualFunc_Group.l0.eq n s2_1' eq_1' v15' v16' n v17'))
theorem slices_EqualFunc_Group.sound (n : Nat) : SoundE prog 102 (slices_EqualFunc_Group.e n) :=
  soundE_of_run (C := slices_EqualFunc_Group.C n) (n := n) (slices_EqualFunc_Group.ok n) func102 (by kernel_rfl) (by kernel_rfl) (fun x r h => (slices_EqualFunc_Group.eq n x).trans h)

def slices_EqualFunc_Bucket.rs : List RTy := [.data .bool]
def slices_EqualFunc_Bucket.ps : List PTy := [.data (.slc TBucket), .data (.slc TBucket), .fnp [TBucket, TBucket] [.bool]]
noncomputable def slices_EqualFunc_Bucket.e (n : Nat) : Ent := ⟨slices_EqualFunc_Bucket.ps, slices_EqualFunc_Bucket.rs, fun x => slices_EqualFunc_Bucket n x.1 x.2.1 x.2.2⟩
noncomputable def slices_EqualFunc_Bucket.C (n : Nat) : Ctx := { tab := tab, fts := fts, pts := pts, Γ := lookO [], Γc := lookO [], Γs := lookO [], Γm := lookO [], Γo := lookO [], Γd := lookO [], ntmps := f169.ntmps, keep := Vi.look ([], []) [(4, ([1, 2, 15, 16, 17], []))], pins := [] }
theorem slices_EqualFunc_Bucket.ok (n : Nat) : CtxOk prog (slices_EqualFunc_Bucket.C n) := ⟨types, ftsOk_, ptsOk_, fns_nil, cls_nil, sqs_nil, ems_nil, mixed, ons_nil, des_nil⟩
noncomputable def slices_EqualFunc_Bucket.code : Code := bodyOf f169
theorem slices_EqualFunc_Bucket.l0.step (n : Nat) (m0 : Nat) (s2_1 : (List Bucket)) (eq_1 : ((Bucket × Bucket) → Option Bool)) (v15 : (List Bucket)) (v16 : Int) (v17 : Int) : it (EmR.no _) (slices_EqualFunc_Bucket.C n) n (Code.go slices_EqualFunc_Bucket.code [1, 1, 0, 1, 0, 0]) (blockK 0 (seqK (EmR.no _) (slices_EqualFunc_Bucket.C n) n (Code.go slices_EqualFunc_Bucket.code [1, 1, 1]) (bodyK (slices_EqualFunc_Bucket.C n) f169 slices_EqualFunc_Bucket.rs))) (m0 + 1) ⟨[(1, .dat (.slc TBucket) s2_1), (2, .fn [TBucket, TBucket] [.bool] eq_1), (15, .dat (.slc TBucket) v15), (16, .dat (.int .i64) v16), (17, .dat (.int .i64) v17)], []⟩ = slices_EqualFunc_Bucket.s0 n (fun (v17' : Int) => it (EmR.no _) (slices_EqualFunc_Bucket.C n) n (Code.go slices_EqualFunc_Bucket.code [1, 1, 0, 1, 0, 0]) (blockK 0 (seqK (EmR.no _) (slices_EqualFunc_Bucket.C n) n (Code.go slices_EqualFunc_Bucket.code [1, 1, 1]) (bodyK (slices_EqualFunc_Bucket.C n) f169 slices_EqualFunc_Bucket.rs))) m0 ⟨[(1, .dat (.slc TBucket) s2_1), (2, .fn [TBucket, TBucket] [.bool] eq_1), (15, .dat (.slc TBucket) v15), (16, .dat (.int .i64) v16), (17, .dat (.int .i64) (v17'))], []⟩) s2_1 eq_1 v15 v16 v17 := by kernel_rfl
theorem slices_EqualFunc_Bucket.l0.eq (n : Nat) (s2_1 : (List Bucket)) (eq_1 : ((Bucket × Bucket) → Option Bool)) (v15 : (List Bucket)) (v16 : Int) : ∀ (m0 : Nat) (v17 : Int), it (EmR.no _) (slices_EqualFunc_Bucket.C n) n (Code.go slices_EqualFunc_Bucket.code [1, 1, 0, 1, 0, 0]) (blockK 0 (seqK (EmR.no _) (slices_EqualFunc_Bucket.C n) n (Code.go slices_EqualFunc_Bucket.code [1, 1, 1]) (bodyK (slices_EqualFunc_Bucket.C n) f169 slices_EqualFunc_Bucket.rs))) m0 ⟨[(1, .dat (.slc TBucket) s2_1), (2, .fn [TBucket, TBucket] [.bool] eq_1), (15, .dat (.slc TBucket) v15), (16, .dat (.int .i64) v16), (17, .dat (.int .i64) v17)], []⟩ = slices_EqualFunc_Bucket.l0 n s2_1 eq_1 v15 v16 m0 v17
  | 0, _ => rfl
  | m0 + 1, v17 =>
    (slices_EqualFunc_Bucket.l0.step n m0 s2_1 eq_1 v15 v16 v17).trans (congr1 (fun k0 => slices_EqualFunc_Bucket.s0 n k0 s2_1 eq_1 v15 v16 v17) (funext fun v17' => slices_EqualFunc_Bucket.l0.eq n s2_1 eq_1 v15 v16 m0 v17'))
theorem slices_EqualFunc_Bucket.run0 (n : Nat) (x : pdens slices_EqualFunc_Bucket.ps) : Vi.run (slices_EqualFunc_Bucket.C n) n f169 slices_EqualFunc_Bucket.ps slices_EqualFunc_Bucket.rs x = slices_EqualFunc_Bucket.s n (fun (s2_1' : (List Bucket)) (eq_1' : ((Bucket × Bucket) → Option Bool)) (v15' : (List Bucket)) (v16' : Int) (v17' : Int) => it (EmR.no _) (slices_EqualFunc_Bucket.C n) n (Code.go slices_EqualFunc_Bucket.code [1, 1, 0, 1, 0, 0]) (blockK 0 (seqK (EmR.no _) (slices_EqualFunc_Bucket.C n) n (Code.go slices_EqualFunc_Bucket.code [1, 1, 1]) (bodyK (slices_EqualFunc_Bucket.C n) f169 slices_EqualFunc_Bucket.rs))) n ⟨[(1, .dat (.slc TBucket) (s2_1')), (2, .fn [TBucket, TBucket] [.bool] (eq_1')), (15, .dat (.slc TBucket) (v15')), (16, .dat (.int .i64) (v16')), (17, .dat (.int .i64) (v17'))], []⟩) x.1 x.2.1 x.2.2 := by kernel_rfl
theorem slices_EqualFunc_Bucket.eq (n : Nat) (x : pdens slices_EqualFunc_Bucket.ps) : Vi.run (slices_EqualFunc_Bucket.C n) n f169 slices_EqualFunc_Bucket.ps slices_EqualFunc_Bucket.rs x = slices_EqualFunc_Bucket n x.1 x.2.1 x.2.2 :=
  (slices_EqualFunc_Bucket.run0 n x).trans (congr1 (fun k0 => slices_EqualFunc_Bucket.s n k0 x.1 x.2.1 x.2.2) (funext fun s2_1' => funext fun eq_1' => funext fun v15' => funext fun v16' => funext fun v17' => slices_EqualFunc_Bucket.l0.eq n s2_1' eq_1' v15' v16' n v17'))
theorem slices_EqualFunc_Bucket.sound (n : Nat) : SoundE prog 169 (slices_EqualFunc_Bucket.e n) :=
  soundE_of_run (C := slices_EqualFunc_Bucket.C n) (n := n) (slices_EqualFunc_Bucket.ok n) func169 (by kernel_rfl) (by kernel_rfl) (fun x r h => (slices_EqualFunc_Bucket.eq n x).trans h)

def slices_EqualFunc_Action.rs : List RTy := [.data .bool]
def slices_EqualFunc_Action.ps : List PTy := [.data (.slc TAction), .data (.slc TAction), .fnp [TAction, TAction] [.bool]]
noncomputable def slices_EqualFunc_Action.e (n : Nat) : Ent := ⟨slices_EqualFunc_Action.ps, slices_EqualFunc_Action.rs, fun x => slices_EqualFunc_Action n x.1 x.2.1 x.2.2⟩
noncomputable def slices_EqualFunc_Action.C (n : Nat) : Ctx := { tab := tab, fts := fts, pts := pts, Γ := lookO [], Γc := lookO [], Γs := lookO [], Γm := lookO [], Γo := lookO [], Γd := lookO [], ntmps := f178.ntmps, keep := Vi.look ([], []) [(4, ([1, 2, 15, 16, 17], []))], pins := [] }
theorem slices_EqualFunc_Action.ok (n : Nat) : CtxOk prog (slices_EqualFunc_Action.C n) := ⟨types, ftsOk_, ptsOk_, fns_nil, cls_nil, sqs_nil, ems_nil, mixed, ons_nil, des_nil⟩
noncomputable def slices_EqualFunc_Action.code : Code := bodyOf f178
theorem slices_EqualFunc_Action.l0.step (n : Nat) (m0 : Nat) (s2_1 : (List Action)) (eq_1 : ((Action × Action) → Option Bool)) (v15 : (List Action)) (v16 : Int) (v17 : Int) : it (EmR.no _) (slices_EqualFunc_Action.C n) n (Code.go slices_EqualFunc_Action.code [1, 1, 0, 1, 0, 0]) (blockK 0 (seqK (EmR.no _) (slices_EqualFunc_Action.C n) n (Code.go slices_EqualFunc_Action.code [1, 1, 1]) (bodyK (slices_EqualFunc_Action.C n) f178 slices_EqualFunc_Action.rs))) (m0 + 1) ⟨[(1, .dat (.slc TAction) s2_1), (2, .fn [TAction, TAction] [.bool] eq_1), (15, .dat (.slc TAction) v15), (16, .dat (.int .i64) v16), (17, .dat (.int .i64) v17)], []⟩ = slices_EqualFunc_Action.s0 n (fun (v17' : Int) => it (EmR.no _) (slices_EqualFunc_Action.C n) n (Code.go slices_EqualFunc_Action.code [1, 1, 0, 1, 0, 0]) (blockK 0 (seqK (EmR.no _) (slices_EqualFunc_Action.C n) n (Code.go slices_EqualFunc_Action.code [1, 1, 1]) (bodyK (slices_EqualFunc_Action.C n) f178 slices_EqualFunc_Action.rs))) m0 ⟨[(1, .dat (.slc TAction) s2_1), (2, .fn [TAction, TAction] [.bool] eq_1), (15, .dat (.slc TAction) v15), (16, .dat (.int .i64) v16), (17, .dat (.int .i64) (v17'))], []⟩) s2_1 eq_1 v15 v16 v17 := by kernel_rfl
theorem slices_EqualFunc_Action.l0.eq (n : Nat) (s2_1 : (List Action)) (eq_1 : ((Action × Action) → Option Bool)) (v15 : (List Action)) (v16 : Int) : ∀ (m0 : Nat) (v17 : Int), it (EmR.no _) (slices_EqualFunc_Action.C n) n (Code.go slices_EqualFunc_Action.code [1, 1, 0, 1, 0, 0]) (blockK 0 (seqK (EmR.no _) (slices_EqualFunc_Action.C n) n (Code.go slices_EqualFunc_Action.code [1, 1, 1]) (bodyK (slices_EqualFunc_Action.C n) f178 slices_EqualFunc_Action.rs))) m0 ⟨[(1, .dat (.slc TAction) s2_1), (2, .fn [TAction, TAction] [.bool] eq_1), (15, .dat (.slc TAction) v15), (16, .dat (.int .i64) v16), (17, .dat (.int .i64) v17)], []⟩ = slices_EqualFunc_Action.l0 n s2_1 eq_1 v15 v16 m0 v17
  | 0, _ => rfl
  | m0 + 1, v17 =>
    (slices_EqualFunc_Action.l0.step n m0 s2_1 eq_1 v15 v16 v17).trans (congr1 (fun k0 => slices_EqualFunc_Action.s0 n k0 s2_1 eq_1 v15 v16 v17) (funext fun v17' => slices_EqualFunc_Action.l0.eq n s2_1 eq_1 v15 v16 m0 v17'))
theorem slices_EqualFunc_Action.run0 (n : Nat) (x : pdens slices_EqualFunc_Action.ps) : Vi.run (slices_EqualFunc_Action.C n) n f178 slices_EqualFunc_Action.ps slices_EqualFunc_Action.rs x = slices_EqualFunc_Action.s n (fun (s2_1' : (List Action)) (eq_1' : ((Action × Action) → Option Bool)) (v15' : (List Action)) (v16' : Int) (v17' : Int) => it (EmR.no _) (slices_EqualFunc_Action.C n) n (Code.go slices_EqualFunc_Action.code [1, 1, 0, 1, 0, 0]) (blockK 0 (seqK (EmR.no _) (slices_EqualFunc_Action.C n) n (Code.go slices_EqualFunc_Action.code [1, 1, 1]) (bodyK (slices_EqualFunc_Action.C n) f178 slices_EqualFunc_Action.rs))) n ⟨[(1, .dat (.slc TAction) (s2_1')), (2, .fn [TAction, TAction] [.bool] (eq_1')), (15, .dat (.slc TAction) (v15')), (16, .dat (.int .i64) (v16')), (17, .dat (.int .i64) (v17'))], []⟩) x.1 x.2.1 x.2.2 := by kernel_rfl
theorem slices_EqualFunc_Action.eq (n : Nat) (x : pdens slices_EqualFunc_Action.ps) : Vi.run (slices_EqualFunc_Action.C n) n f178 slices_EqualFunc_Action.ps slices_EqualFunc_Action.rs x = slices_EqualFunc_Action n x.1 x.2.1 x.2.2 :=
  (slices_EqualFunc_Action.run0 n x).trans (congr1 (fun k0 => slices_EqualFunc_Action.s n k0 x.1 x.2.1 x.2.2) (funext fun s2_1' => funext fun eq_1' => funext fun v15' => funext fun v16' => funext fun v17' => slices_EqualFunc_Action.l0.eq n s2_1' eq_1' v15' v16' n v17'))
theorem slices_EqualFunc_Action.sound (n : Nat) : SoundE prog 178 (slices_EqualFunc_Action.e n) :=
  soundE_of_run (C := slices_EqualFunc_Action.C n) (n := n) (slices_EqualFunc_Action.ok n) func178 (by kernel_rfl) (by kernel_rfl) (fun x r h => (slices_EqualFunc_Action.eq n x).trans h)

def action_Same_c.rs : List Ty := [.bool]
def action_Same_c.ps : List Ty := [TAction, TAction]
def action_Same_c.caps : List PTy := []
noncomputable def action_Same_c.e (n : Nat) : Cl := ⟨action_Same_c.ps, action_Same_c.caps, action_Same_c.rs, fun x c => some (action_Same_c x.1 x.2)⟩
noncomputable def action_Same_c.C (n : Nat) : Ctx := { tab := tab, fts := fts, pts := pts, Γ := lookO [], Γc := lookO [], Γs := lookO [], Γm := lookO [], Γo := lookO [], Γd := lookO [], ntmps := f179.ntmps, keep := Vi.look ([], []) [], pins := [], cold := [2, 3] }
theorem action_Same_c.ok (n : Nat) : CtxOk prog (action_Same_c.C n) := ⟨types, ftsOk_, ptsOk_, fns_nil, cls_nil, sqs_nil, ems_nil, mixed, ons_nil, des_nil⟩
theorem action_Same_c.eq (n : Nat) (x : dens action_Same_c.ps) (c : pdens action_Same_c.caps) : Vi.runC (action_Same_c.C n) n f179 action_Same_c.ps action_Same_c.caps action_Same_c.rs x c = some (action_Same_c x.1 x.2) := by kernel_rfl
theorem action_Same_c.sound (n : Nat) : SoundC prog 179 (action_Same_c.e n) :=
  soundC_of_run (C := action_Same_c.C n) (n := n) (action_Same_c.ok n) func179 (by kernel_rfl) (by kernel_rfl) (fun x c r h => (action_Same_c.eq n x c).trans h)

def acts_Same.rs : List RTy := [.data .bool]
def acts_Same.ps : List PTy := [.data (.slc TAction), .data (.slc TAction)]
noncomputable def acts_Same.e (n : Nat) : Ent := ⟨acts_Same.ps, acts_Same.rs, fun x => acts_Same n x.1 x.2⟩
noncomputable def acts_Same.C (n : Nat) : Ctx := { tab := tab, fts := fts, pts := pts, Γ := lookO [(178, slices_EqualFunc_Action.e n)], Γc := lookO [(179, action_Same_c.e n)], Γs := lookO [], Γm := lookO [], Γo := lookO [], Γd := lookO [], ntmps := f177.ntmps, keep := Vi.look ([], []) [], pins := [] }
theorem acts_Same.ok (n : Nat) : CtxOk prog (acts_Same.C n) := ⟨types, ftsOk_, ptsOk_, (fns_cons (slices_EqualFunc_Action.sound n) fns_nil), (cls_cons (action_Same_c.sound n) cls_nil), sqs_nil, ems_nil, mixed, ons_nil, des_nil⟩
theorem acts_Same.eq (n : Nat) (x : pdens acts_Same.ps) : Vi.run (acts_Same.C n) n f177 acts_Same.ps acts_Same.rs x = acts_Same n x.1 x.2 := by kernel_rfl
theorem acts_Same.sound (n : Nat) : SoundE prog 177 (acts_Same.e n) :=
  soundE_of_run (C := acts_Same.C n) (n := n) (acts_Same.ok n) func177 (by kernel_rfl) (by kernel_rfl) (fun x r h => (acts_Same.eq n x).trans h)

def bucket_same_c.rs : List Ty := [.bool]
def bucket_same_c.ps : List Ty := [TBucket, TBucket]
def bucket_same_c.caps : List PTy := []
noncomputable def bucket_same_c.e (n : Nat) : Cl := ⟨bucket_same_c.ps, bucket_same_c.caps, bucket_same_c.rs, fun x c => bucket_same_c n x.1 x.2⟩
noncomputable def bucket_same_c.C (n : Nat) : Ctx := { tab := tab, fts := fts, pts := pts, Γ := lookO [(177, acts_Same.e n)], Γc := lookO [], Γs := lookO [], Γm := lookO [], Γo := lookO [], Γd := lookO [], ntmps := f170.ntmps, keep := Vi.look ([], []) [], pins := [] }
theorem bucket_same_c.ok (n : Nat) : CtxOk prog (bucket_same_c.C n) := ⟨types, ftsOk_, ptsOk_, (fns_cons (acts_Same.sound n) fns_nil), cls_nil, sqs_nil, ems_nil, mixed, ons_nil, des_nil⟩
theorem bucket_same_c.eq (n : Nat) (x : dens bucket_same_c.ps) (c : pdens bucket_same_c.caps) : Vi.runC (bucket_same_c.C n) n f170 bucket_same_c.ps bucket_same_c.caps bucket_same_c.rs x c = bucket_same_c n x.1 x.2 := by kernel_rfl
theorem bucket_same_c.sound (n : Nat) : SoundC prog 170 (bucket_same_c.e n) :=
  soundC_of_run (C := bucket_same_c.C n) (n := n) (bucket_same_c.ok n) func170 (by kernel_rfl) (by kernel_rfl) (fun x c r h => (bucket_same_c.eq n x c).trans h)

def bucket_Same.rs : List RTy := [.data .bool]
def bucket_Same.ps : List PTy := [.data (.slc TBucket), .data (.slc TBucket)]
noncomputable def bucket_Same.e (n : Nat) : Ent := ⟨bucket_Same.ps, bucket_Same.rs, fun x => bucket_Same n x.1 x.2⟩
noncomputable def bucket_Same.C (n : Nat) : Ctx := { tab := tab, fts := fts, pts := pts, Γ := lookO [(169, slices_EqualFunc_Bucket.e n)], Γc := lookO [(170, bucket_same_c.e n)], Γs := lookO [], Γm := lookO [], Γo := lookO [], Γd := lookO [], ntmps := f146.ntmps, keep := Vi.look ([], []) [], pins := [] }
theorem bucket_Same.ok (n : Nat) : CtxOk prog (bucket_Same.C n) := ⟨types, ftsOk_, ptsOk_, (fns_cons (slices_EqualFunc_Bucket.sound n) fns_nil), (cls_cons (bucket_same_c.sound n) cls_nil), sqs_nil, ems_nil, mixed, ons_nil, des_nil⟩
theorem bucket_Same.eq (n : Nat) (x : pdens bucket_Same.ps) : Vi.run (bucket_Same.C n) n f146 bucket_Same.ps bucket_Same.rs x = bucket_Same n x.1 x.2 := by kernel_rfl
theorem bucket_Same.sound (n : Nat) : SoundE prog 146 (bucket_Same.e n) :=
  soundE_of_run (C := bucket_Same.C n) (n := n) (bucket_Same.ok n) func146 (by kernel_rfl) (by kernel_rfl) (fun x r h => (bucket_Same.eq n x).trans h)

def group_same_c.rs : List Ty := [.bool]
def group_same_c.ps : List Ty := [TGroup, TGroup]
def group_same_c.caps : List PTy := []
noncomputable def group_same_c.e (n : Nat) : Cl := ⟨group_same_c.ps, group_same_c.caps, group_same_c.rs, fun x c => group_same_c n x.1 x.2⟩
noncomputable def group_same_c.C (n : Nat) : Ctx := { tab := tab, fts := fts, pts := pts, Γ := lookO [(146, bucket_Same.e n)], Γc := lookO [], Γs := lookO [], Γm := lookO [], Γo := lookO [], Γd := lookO [], ntmps := f103.ntmps, keep := Vi.look ([], []) [], pins := [] }
theorem group_same_c.ok (n : Nat) : CtxOk prog (group_same_c.C n) := ⟨types, ftsOk_, ptsOk_, (fns_cons (bucket_Same.sound n) fns_nil), cls_nil, sqs_nil, ems_nil, mixed, ons_nil, des_nil⟩
theorem group_same_c.eq (n : Nat) (x : dens group_same_c.ps) (c : pdens group_same_c.caps) : Vi.runC (group_same_c.C n) n f103 group_same_c.ps group_same_c.caps group_same_c.rs x c = group_same_c n x.1 x.2 := by kernel_rfl
theorem group_same_c.sound (n : Nat) : SoundC prog 103 (group_same_c.e n) :=
  soundC_of_run (C := group_same_c.C n) (n := n) (group_same_c.ok n) func103 (by kernel_rfl) (by kernel_rfl) (fun x c r h => (group_same_c.eq n x c).trans h)

def group_Same.rs : List RTy := [.data .bool]
def group_Same.ps : List PTy := [.data (.slc TGroup), .data (.slc TGroup)]
noncomputable def group_Same.e (n : Nat) : Ent := ⟨group_Same.ps, group_Same.rs, fun x => group_Same n x.1 x.2⟩
noncomputable def group_Same.C (n : Nat) : Ctx := { tab := tab, fts := fts, pts := pts, Γ := lookO [(102, slices_EqualFunc_Group.e n)], Γc := lookO [(103, group_same_c.e n)], Γs := lookO [], Γm := lookO [], Γo := lookO [], Γd := lookO [], ntmps := f56.ntmps, keep := Vi.look ([], []) [], pins := [] }
theorem group_Same.ok (n : Nat) : CtxOk prog (group_Same.C n) := ⟨types, ftsOk_, ptsOk_, (fns_cons (slices_EqualFunc_Group.sound n) fns_nil), (cls_cons (group_same_c.sound n) cls_nil), sqs_nil, ems_nil, mixed, ons_nil, des_nil⟩
theorem group_Same.eq (n : Nat) (x : pdens group_Same.ps) : Vi.run (group_Same.C n) n f56 group_Same.ps group_Same.rs x = group_Same n x.1 x.2 := by kernel_rfl
theorem group_Same.sound (n : Nat) : SoundE prog 56 (group_Same.e n) :=
  soundE_of_run (C := group_Same.C n) (n := n) (group_Same.ok n) func56 (by kernel_rfl) (by kernel_rfl) (fun x r h => (group_Same.eq n x).trans h)

def law24_awake.rs : List RTy := [.data .bool]
def law24_awake.ps : List PTy := []
noncomputable def law24_awake.e (n : Nat) : Ent := ⟨law24_awake.ps, law24_awake.rs, fun x => law24_awake n⟩
noncomputable def law24_awake.C (n : Nat) : Ctx := { tab := tab, fts := fts, pts := pts, Γ := lookO [(43, group_Do.e n), (46, group_Right.e n), (48, group_Names.e n), (49, group_Find.e n), (56, group_Same.e n), (59, group_Loop.e n), (63, group_Check.e n)], Γc := lookO [], Γs := lookO [], Γm := lookO [], Γo := lookO [], Γd := lookO [], ntmps := f42.ntmps, keep := Vi.look ([], []) [], pins := [] }
theorem law24_awake.ok (n : Nat) : CtxOk prog (law24_awake.C n) := ⟨types, ftsOk_, ptsOk_, (fns_cons (group_Do.sound n) (fns_cons (group_Right.sound n) (fns_cons (group_Names.sound n) (fns_cons (group_Find.sound n) (fns_cons (group_Same.sound n) (fns_cons (group_Loop.sound n) (fns_cons (group_Check.sound n) fns_nil))))))), cls_nil, sqs_nil, ems_nil, mixed, ons_nil, des_nil⟩
theorem law24_awake.eq (n : Nat) (x : pdens law24_awake.ps) : Vi.run (law24_awake.C n) n f42 law24_awake.ps law24_awake.rs x = law24_awake n := by kernel_rfl
theorem law24_awake.sound (n : Nat) : SoundE prog 42 (law24_awake.e n) :=
  soundE_of_run (C := law24_awake.C n) (n := n) (law24_awake.ok n) func42 (by kernel_rfl) (by kernel_rfl) (fun x r h => (law24_awake.eq n x).trans h)

def ref24_bad.rs : List RTy := [.data TFault]
def ref24_bad.ps : List PTy := [.data (.int .i64)]
noncomputable def ref24_bad.e (n : Nat) : Ent := ⟨ref24_bad.ps, ref24_bad.rs, fun x => some (ref24_bad x)⟩
noncomputable def ref24_bad.C (n : Nat) : Ctx := { tab := tab, fts := fts, pts := pts, Γ := lookO [], Γc := lookO [], Γs := lookO [], Γm := lookO [], Γo := lookO [], Γd := lookO [], ntmps := f93.ntmps, keep := Vi.look ([], []) [], pins := [] }
theorem ref24_bad.ok (n : Nat) : CtxOk prog (ref24_bad.C n) := ⟨types, ftsOk_, ptsOk_, fns_nil, cls_nil, sqs_nil, ems_nil, mixed, ons_nil, des_nil⟩
theorem ref24_bad.eq (n : Nat) (x : pdens ref24_bad.ps) : Vi.run (ref24_bad.C n) n f93 ref24_bad.ps ref24_bad.rs x = some (ref24_bad x) := by kernel_rfl
theorem ref24_bad.sound (n : Nat) : SoundE prog 93 (ref24_bad.e n) :=
  soundE_of_run (C := ref24_bad.C n) (n := n) (ref24_bad.ok n) func93 (by kernel_rfl) (by kernel_rfl) (fun x r h => (ref24_bad.eq n x).trans h)

def ref24_place.rs : List RTy := [.data (.int .i64)]
def ref24_place.ps : List PTy := [.data (.slc TGroup), .data (.int .i64)]
noncomputable def ref24_place.e (n : Nat) : Ent := ⟨ref24_place.ps, ref24_place.rs, fun x => ref24_place n x.1 x.2⟩
noncomputable def ref24_place.C (n : Nat) : Ctx := { tab := tab, fts := fts, pts := pts, Γ := lookO [], Γc := lookO [], Γs := lookO [], Γm := lookO [], Γo := lookO [], Γd := lookO [], ntmps := f94.ntmps, keep := Vi.look ([], []) [(2, ([0, 1, 5], []))], pins := [] }
theorem ref24_place.ok (n : Nat) : CtxOk prog (ref24_place.C n) := ⟨types, ftsOk_, ptsOk_, fns_nil, cls_nil, sqs_nil, ems_nil, mixed, ons_nil, des_nil⟩
noncomputable def ref24_place.code : Code := bodyOf f94
theorem ref24_place.l0.step (n : Nat) (m0 : Nat) (l_1 : (List Group)) (id1_1 : Int) (i : Int) : it (EmR.no _) (ref24_place.C n) n (Code.go ref24_place.code [1, 0, 1, 0, 0]) (blockK 0 (seqK (EmR.no _) (ref24_place.C n) n (Code.go ref24_place.code [1, 1]) (bodyK (ref24_place.C n) f94 ref24_place.rs))) (m0 + 1) ⟨[(0, .dat (.slc TGroup) l_1), (1, .dat (.int .i64) id1_1), (5, .dat (.int .i64) i)], []⟩ = ref24_place.s0 n (fun (i' : Int) => it (EmR.no _) (ref24_place.C n) n (Code.go ref24_place.code [1, 0, 1, 0, 0]) (blockK 0 (seqK (EmR.no _) (ref24_place.C n) n (Code.go ref24_place.code [1, 1]) (bodyK (ref24_place.C n) f94 ref24_place.rs))) m0 ⟨[(0, .dat (.slc TGroup) l_1), (1, .dat (.int .i64) id1_1), (5, .dat (.int .i64) (i'))], []⟩) l_1 id1_1 i := by kernel_rfl
theorem ref24_place.l0.eq (n : Nat) (l_1 : (List Group)) (id1_1 : Int) : ∀ (m0 : Nat) (i : Int), it (EmR.no _) (ref24_place.C n) n (Code.go ref24_place.code [1, 0, 1, 0, 0]) (blockK 0 (seqK (EmR.no _) (ref24_place.C n) n (Code.go ref24_place.code [1, 1]) (bodyK (ref24_place.C n) f94 ref24_place.rs))) m0 ⟨[(0, .dat (.slc TGroup) l_1), (1, .dat (.int .i64) id1_1), (5, .dat (.int .i64) i)], []⟩ = ref24_place.l0 n l_1 id1_1 m0 i
  | 0, _ => rfl
  | m0 + 1, i =>
    (ref24_place.l0.step n m0 l_1 id1_1 i).trans (congr1 (fun k0 => ref24_place.s0 n k0 l_1 id1_1 i) (funext fun i' => ref24_place.l0.eq n l_1 id1_1 m0 i'))
theorem ref24_place.run0 (n : Nat) (x : pdens ref24_place.ps) : Vi.run (ref24_place.C n) n f94 ref24_place.ps ref24_place.rs x = ref24_place.s n (fun (l_1' : (List Group)) (id1_1' : Int) (i' : Int) => it (EmR.no _) (ref24_place.C n) n (Code.go ref24_place.code [1, 0, 1, 0, 0]) (blockK 0 (seqK (EmR.no _) (ref24_place.C n) n (Code.go ref24_place.code [1, 1]) (bodyK (ref24_place.C n) f94 ref24_place.rs))) n ⟨[(0, .dat (.slc TGroup) (l_1')), (1, .dat (.int .i64) (id1_1')), (5, .dat (.int .i64) (i'))], []⟩) x.1 x.2 := by kernel_rfl
theorem ref24_place.eq (n : Nat) (x : pdens ref24_place.ps) : Vi.run (ref24_place.C n) n f94 ref24_place.ps ref24_place.rs x = ref24_place n x.1 x.2 :=
  (ref24_place.run0 n x).trans (congr1 (fun k0 => ref24_place.s n k0 x.1 x.2) (funext fun l_1' => funext fun id1_1' => funext fun i' => ref24_place.l0.eq n l_1' id1_1' n i'))
theorem ref24_place.sound (n : Nat) : SoundE prog 94 (ref24_place.e n) :=
  soundE_of_run (C := ref24_place.C n) (n := n) (ref24_place.ok n) func94 (by kernel_rfl) (by kernel_rfl) (fun x r h => (ref24_place.eq n x).trans h)

def ref13_Groups.rs : List RTy := [.fresh (.int .i64)]
def ref13_Groups.ps : List PTy := [.data (.slc TAction)]
noncomputable def ref13_Groups.e (n : Nat) : Ent := ⟨ref13_Groups.ps, ref13_Groups.rs, fun x => ref13_Groups n x⟩
noncomputable def ref13_Groups.C (n : Nat) : Ctx := { tab := tab, fts := fts, pts := pts, Γ := lookO [], Γc := lookO [], Γs := lookO [], Γm := lookO [], Γo := lookO [], Γd := lookO [], ntmps := f106.ntmps, keep := Vi.look ([], []) [(3, ([0, 3, 4], []))], pins := [] }
theorem ref13_Groups.ok (n : Nat) : CtxOk prog (ref13_Groups.C n) := ⟨types, ftsOk_, ptsOk_, fns_nil, cls_nil, sqs_nil, ems_nil, mixed, ons_nil, des_nil⟩
noncomputable def ref13_Groups.code : Code := bodyOf f106
theorem ref13_Groups.l0.step (n : Nat) (m0 : Nat) (l_1 : (List Action)) (out : (List Int)) (i : Int) : it (EmR.no _) (ref13_Groups.C n) n (Code.go ref13_Groups.code [1, 1, 0, 1, 0, 0]) (blockK 0 (seqK (EmR.no _) (ref13_Groups.C n) n (Code.go ref13_Groups.code [1, 1, 1]) (bodyK (ref13_Groups.C n) f106 ref13_Groups.rs))) (m0 + 1) ⟨[(0, .dat (.slc TAction) l_1), (3, .lst (.tip 100003 0) (.int .i64) out), (4, .dat (.int .i64) i)], [(100003, .tok 0)]⟩ = ref13_Groups.s0 n (fun (out' : (List Int)) (i' : Int) => it (EmR.no _) (ref13_Groups.C n) n (Code.go ref13_Groups.code [1, 1, 0, 1, 0, 0]) (blockK 0 (seqK (EmR.no _) (ref13_Groups.C n) n (Code.go ref13_Groups.code [1, 1, 1]) (bodyK (ref13_Groups.C n) f106 ref13_Groups.rs))) m0 ⟨[(0, .dat (.slc TAction) l_1), (3, .lst (.tip 100003 0) (.int .i64) (out')), (4, .dat (.int .i64) (i'))], [(100003, .tok 0)]⟩) l_1 out i := by kernel_rfl
theorem ref13_Groups.l0.eq (n : Nat) (l_1 : (List Action)) : ∀ (m0 : Nat) (out : (List Int)) (i : Int), it (EmR.no _) (ref13_Groups.C n) n (Code.go ref13_Groups.code [1, 1, 0, 1, 0, 0]) (blockK 0 (seqK (EmR.no _) (ref13_Groups.C n) n (Code.go ref13_Groups.code [1, 1, 1]) (bodyK (ref13_Groups.C n) f106 ref13_Groups.rs))) m0 ⟨[(0, .dat (.slc TAction) l_1), (3, .lst (.tip 100003 0) (.int .i64) out), (4, .dat (.int .i64) i)], [(100003, .tok 0)]⟩ = ref13_Groups.l0 n l_1 m0 out i
  | 0, _, _ => rfl
  | m0 + 1, out, i =>
    (ref13_Groups.l0.step n m0 l_1 out i).trans (congr1 (fun k0 => ref13_Groups.s0 n k0 l_1 out i) (funext fun out' => funext fun i' => ref13_Groups.l0.eq n l_1 m0 out' i'))
theorem ref13_Groups.run0 (n : Nat) (x : pdens ref13_Groups.ps) : Vi.run (ref13_Groups.C n) n f106 ref13_Groups.ps ref13_Groups.rs x = ref13_Groups.s n (fun (l_1' : (List Action)) (out' : (List Int)) (i' : Int) => it (EmR.no _) (ref13_Groups.C n) n (Code.go ref13_Groups.code [1, 1, 0, 1, 0, 0]) (blockK 0 (seqK (EmR.no _) (ref13_Groups.C n) n (Code.go ref13_Groups.code [1, 1, 1]) (bodyK (ref13_Groups.C n) f106 ref13_Groups.rs))) n ⟨[(0, .dat (.slc TAction) (l_1')), (3, .lst (.tip 100003 0) (.int .i64) (out')), (4, .dat (.int .i64) (i'))], [(100003, .tok 0)]⟩) x := by kernel_rfl
theorem ref13_Groups.eq (n : Nat) (x : pdens ref13_Groups.ps) : Vi.run (ref13_Groups.C n) n f106 ref13_Groups.ps ref13_Groups.rs x = ref13_Groups n x :=
  (ref13_Groups.run0 n x).trans (congr1 (fun k0 => ref13_Groups.s n k0 x) (funext fun l_1' => funext fun out' => funext fun i' => ref13_Groups.l0.eq n l_1' n out' i'))
theorem ref13_Groups.sound (n : Nat) : SoundE prog 106 (ref13_Groups.e n) :=
  soundE_of_run (C := ref13_Groups.C n) (n := n) (ref13_Groups.ok n) func106 (by kernel_rfl) (by kernel_rfl) (fun x r h => (ref13_Groups.eq n x).trans h)

def ref24_Names.rs : List RTy := [.fresh (.int .i64)]
def ref24_Names.ps : List PTy := [.data (.slc TBucket)]
noncomputable def ref24_Names.e (n : Nat) : Ent := ⟨ref24_Names.ps, ref24_Names.rs, fun x => ref24_Names n x⟩
noncomputable def ref24_Names.C (n : Nat) : Ctx := { tab := tab, fts := fts, pts := pts, Γ := lookO [(106, ref13_Groups.e n)], Γc := lookO [], Γs := lookO [], Γm := lookO [], Γo := lookO [], Γd := lookO [], ntmps := f62.ntmps, keep := Vi.look ([], []) [(3, ([0, 3, 4], []))], pins := [] }
theorem ref24_Names.ok (n : Nat) : CtxOk prog (ref24_Names.C n) := ⟨types, ftsOk_, ptsOk_, (fns_cons (ref13_Groups.sound n) fns_nil), cls_nil, sqs_nil, ems_nil, mixed, ons_nil, des_nil⟩
noncomputable def ref24_Names.code : Code := bodyOf f62
theorem ref24_Names.l0.step (n : Nat) (m0 : Nat) (l_1 : (List Bucket)) (out : (List Int)) (i : Int) : it (EmR.no _) (ref24_Names.C n) n (Code.go ref24_Names.code [1, 1, 0, 1, 0, 0]) (blockK 0 (seqK (EmR.no _) (ref24_Names.C n) n (Code.go ref24_Names.code [1, 1, 1]) (bodyK (ref24_Names.C n) f62 ref24_Names.rs))) (m0 + 1) ⟨[(0, .dat (.slc TBucket) l_1), (3, .lst (.tip 100003 0) (.int .i64) out), (4, .dat (.int .i64) i)], [(100003, .tok 0)]⟩ = ref24_Names.s0 n (fun (out' : (List Int)) (i' : Int) => it (EmR.no _) (ref24_Names.C n) n (Code.go ref24_Names.code [1, 1, 0, 1, 0, 0]) (blockK 0 (seqK (EmR.no _) (ref24_Names.C n) n (Code.go ref24_Names.code [1, 1, 1]) (bodyK (ref24_Names.C n) f62 ref24_Names.rs))) m0 ⟨[(0, .dat (.slc TBucket) l_1), (3, .lst (.tip 100003 0) (.int .i64) (out')), (4, .dat (.int .i64) (i'))], [(100003, .tok 0)]⟩) l_1 out i := by kernel_rfl
theorem ref24_Names.l0.eq (n : Nat) (l_1 : (List Bucket)) : ∀ (m0 : Nat) (out : (List Int)) (i : Int), it (EmR.no _) (ref24_Names.C n) n (Code.go ref24_Names.code [1, 1, 0, 1, 0, 0]) (blockK 0 (seqK (EmR.no _) (ref24_Names.C n) n (Code.go ref24_Names.code [1, 1, 1]) (bodyK (ref24_Names.C n) f62 ref24_Names.rs))) m0 ⟨[(0, .dat (.slc TBucket) l_1), (3, .lst (.tip 100003 0) (.int .i64) out), (4, .dat (.int .i64) i)], [(100003, .tok 0)]⟩ = ref24_Names.l0 n l_1 m0 out i
  | 0, _, _ => rfl
  | m0 + 1, out, i =>
    (ref24_Names.l0.step n m0 l_1 out i).trans (congr1 (fun k0 => ref24_Names.s0 n k0 l_1 out i) (funext fun out' => funext fun i' => ref24_Names.l0.eq n l_1 m0 out' i'))
theorem ref24_Names.run0 (n : Nat) (x : pdens ref24_Names.ps) : Vi.run (ref24_Names.C n) n f62 ref24_Names.ps ref24_Names.rs x = ref24_Names.s n (fun (l_1' : (List Bucket)) (out' : (List Int)) (i' : Int) => it (EmR.no _) (ref24_Names.C n) n (Code.go ref24_Names.code [1, 1, 0, 1, 0, 0]) (blockK 0 (seqK (EmR.no _) (ref24_Names.C n) n (Code.go ref24_Names.code [1, 1, 1]) (bodyK (ref24_Names.C n) f62 ref24_Names.rs))) n ⟨[(0, .dat (.slc TBucket) (l_1')), (3, .lst (.tip 100003 0) (.int .i64) (out')), (4, .dat (.int .i64) (i'))], [(100003, .tok 0)]⟩) x := by kernel_rfl
theorem ref24_Names.eq (n : Nat) (x : pdens ref24_Names.ps) : Vi.run (ref24_Names.C n) n f62 ref24_Names.ps ref24_Names.rs x = ref24_Names n x :=
  (ref24_Names.run0 n x).trans (congr1 (fun k0 => ref24_Names.s n k0 x) (funext fun l_1' => funext fun out' => funext fun i' => ref24_Names.l0.eq n l_1' n out' i'))
theorem ref24_Names.sound (n : Nat) : SoundE prog 62 (ref24_Names.e n) :=
  soundE_of_run (C := ref24_Names.C n) (n := n) (ref24_Names.ok n) func62 (by kernel_rfl) (by kernel_rfl) (fun x r h => (ref24_Names.eq n x).trans h)

def ref24_named.rs : List RTy := [.data .bool]
def ref24_named.ps : List PTy := [.data (.slc TGroup), .data (.int .i64)]
noncomputable def ref24_named.e (n : Nat) : Ent := ⟨ref24_named.ps, ref24_named.rs, fun x => ref24_named n x.1 x.2⟩
noncomputable def ref24_named.C (n : Nat) : Ctx := { tab := tab, fts := fts, pts := pts, Γ := lookO [(62, ref24_Names.e n)], Γc := lookO [], Γs := lookO [], Γm := lookO [], Γo := lookO [], Γd := lookO [], ntmps := f140.ntmps, keep := Vi.look ([], []) [(2, ([0, 1, 5], [])), (6, ([0, 1, 5, 6, 7], []))], pins := [] }
theorem ref24_named.ok (n : Nat) : CtxOk prog (ref24_named.C n) := ⟨types, ftsOk_, ptsOk_, (fns_cons (ref24_Names.sound n) fns_nil), cls_nil, sqs_nil, ems_nil, mixed, ons_nil, des_nil⟩
noncomputable def ref24_named.code : Code := bodyOf f140
theorem ref24_named.l1.step (n : Nat) (m0 : Nat) (m1 : Nat) (l_2 : (List Group)) (id1_2 : Int) (i_1 : Int) (names : (List Int)) (j : Int) : it (EmR.no _) (ref24_named.C n) n (Code.go ref24_named.code [1, 0, 1, 0, 0, 1, 0, 0, 1, 1, 0, 0]) (blockK 2 (blockK 1 (seqK (EmR.no _) (ref24_named.C n) n (Code.go ref24_named.code [1, 0, 1, 0, 0, 1, 1]) (loopK (EmR.no _) (ref24_named.C n) n (Code.go ref24_named.code [1, 0, 1, 0, 0]) (blockK 0 (seqK (EmR.no _) (ref24_named.C n) n (Code.go ref24_named.code [1, 1]) (bodyK (ref24_named.C n) f140 ref24_named.rs))) m0)))) (m1 + 1) ⟨[(0, .dat (.slc TGroup) l_2), (1, .dat (.int .i64) id1_2), (5, .dat (.int .i64) i_1), (6, .lst (.tip 100006 0) (.int .i64) names), (7, .dat (.int .i64) j)], [(100006, .tok 0)]⟩ = ref24_named.s1 n (fun (j' : Int) => it (EmR.no _) (ref24_named.C n) n (Code.go ref24_named.code [1, 0, 1, 0, 0, 1, 0, 0, 1, 1, 0, 0]) (blockK 2 (blockK 1 (seqK (EmR.no _) (ref24_named.C n) n (Code.go ref24_named.code [1, 0, 1, 0, 0, 1, 1]) (loopK (EmR.no _) (ref24_named.C n) n (Code.go ref24_named.code [1, 0, 1, 0, 0]) (blockK 0 (seqK (EmR.no _) (ref24_named.C n) n (Code.go ref24_named.code [1, 1]) (bodyK (ref24_named.C n) f140 ref24_named.rs))) m0)))) m1 ⟨[(0, .dat (.slc TGroup) l_2), (1, .dat (.int .i64) id1_2), (5, .dat (.int .i64) i_1), (6, .lst (.tip 100006 0) (.int .i64) names), (7, .dat (.int .i64) (j'))], [(100006, .tok 0)]⟩) (fun (l_1' : (List Group)) (id1_1' : Int) (i' : Int) => it (EmR.no _) (ref24_named.C n) n (Code.go ref24_named.code [1, 0, 1, 0, 0]) (blockK 0 (seqK (EmR.no _) (ref24_named.C n) n (Code.go ref24_named.code [1, 1]) (bodyK (ref24_named.C n) f140 ref24_named.rs))) m0 ⟨[(0, .dat (.slc TGroup) (l_1')), (1, .dat (.int .i64) (id1_1')), (5, .dat (.int .i64) (i'))], []⟩) l_2 id1_2 i_1 names j := by kernel_rfl
theorem ref24_named.l1.eq (n : Nat) (m0 : Nat) (l_2 : (List Group)) (id1_2 : Int) (i_1 : Int) (names : (List Int)) : ∀ (m1 : Nat) (j : Int), it (EmR.no _) (ref24_named.C n) n (Code.go ref24_named.code [1, 0, 1, 0, 0, 1, 0, 0, 1, 1, 0, 0]) (blockK 2 (blockK 1 (seqK (EmR.no _) (ref24_named.C n) n (Code.go ref24_named.code [1, 0, 1, 0, 0, 1, 1]) (loopK (EmR.no _) (ref24_named.C n) n (Code.go ref24_named.code [1, 0, 1, 0, 0]) (blockK 0 (seqK (EmR.no _) (ref24_named.C n) n (Code.go ref24_named.code [1, 1]) (bodyK (ref24_named.C n) f140 ref24_named.rs))) m0)))) m1 ⟨[(0, .dat (.slc TGroup) l_2), (1, .dat (.int .i64) id1_2), (5, .dat (.int .i64) i_1), (6, .lst (.tip 100006 0) (.int .i64) names), (7, .dat (.int .i64) j)], [(100006, .tok 0)]⟩ = ref24_named.l1 n l_2 id1_2 i_1 names (fun (l_1'' : (List Group)) (id1_1'' : Int) (i'' : Int) => it (EmR.no _) (ref24_named.C n) n (Code.go ref24_named.code [1, 0, 1, 0, 0]) (blockK 0 (seqK (EmR.no _) (ref24_named.C n) n (Code.go ref24_named.code [1, 1]) (bodyK (ref24_named.C n) f140 ref24_named.rs))) m0 ⟨[(0, .dat (.slc TGroup) (l_1'')), (1, .dat (.int .i64) (id1_1'')), (5, .dat (.int .i64) (i''))], []⟩) m1 j
  | 0, _ => rfl
  | m1 + 1, j =>
    (ref24_named.l1.step n m0 m1 l_2 id1_2 i_1 names j).trans (congr2 (fun k1 k0 => ref24_named.s1 n k1 k0 l_2 id1_2 i_1 names j) (funext fun j' => ref24_named.l1.eq n m0 l_2 id1_2 i_1 names m1 j') rfl)
theorem ref24_named.l0.step (n : Nat) (m0 : Nat) (l_1 : (List Group)) (id1_1 : Int) (i : Int) : it (EmR.no _) (ref24_named.C n) n (Code.go ref24_named.code [1, 0, 1, 0, 0]) (blockK 0 (seqK (EmR.no _) (ref24_named.C n) n (Code.go ref24_named.code [1, 1]) (bodyK (ref24_named.C n) f140 ref24_named.rs))) (m0 + 1) ⟨[(0, .dat (.slc TGroup) l_1), (1, .dat (.int .i64) id1_1), (5, .dat (.int .i64) i)], []⟩ = ref24_named.s0 n (fun (l_2' : (List Group)) (id1_2' : Int) (i_1' : Int) (names' : (List Int)) (j' : Int) => it (EmR.no _) (ref24_named.C n) n (Code.go ref24_named.code [1, 0, 1, 0, 0, 1, 0, 0, 1, 1, 0, 0]) (blockK 2 (blockK 1 (seqK (EmR.no _) (ref24_named.C n) n (Code.go ref24_named.code [1, 0, 1, 0, 0, 1, 1]) (loopK (EmR.no _) (ref24_named.C n) n (Code.go ref24_named.code [1, 0, 1, 0, 0]) (blockK 0 (seqK (EmR.no _) (ref24_named.C n) n (Code.go ref24_named.code [1, 1]) (bodyK (ref24_named.C n) f140 ref24_named.rs))) m0)))) n ⟨[(0, .dat (.slc TGroup) (l_2')), (1, .dat (.int .i64) (id1_2')), (5, .dat (.int .i64) (i_1')), (6, .lst (.tip 100006 0) (.int .i64) (names')), (7, .dat (.int .i64) (j'))], [(100006, .tok 0)]⟩) l_1 id1_1 i := by kernel_rfl
theorem ref24_named.l0.eq (n : Nat) (l_1 : (List Group)) (id1_1 : Int) : ∀ (m0 : Nat) (i : Int), it (EmR.no _) (ref24_named.C n) n (Code.go ref24_named.code [1, 0, 1, 0, 0]) (blockK 0 (seqK (EmR.no _) (ref24_named.C n) n (Code.go ref24_named.code [1, 1]) (bodyK (ref24_named.C n) f140 ref24_named.rs))) m0 ⟨[(0, .dat (.slc TGroup) l_1), (1, .dat (.int .i64) id1_1), (5, .dat (.int .i64) i)], []⟩ = ref24_named.l0 n l_1 id1_1 m0 i
  | 0, _ => rfl
  | m0 + 1, i =>
    (ref24_named.l0.step n m0 l_1 id1_1 i).trans (congr1 (fun k1 => ref24_named.s0 n k1 l_1 id1_1 i) (funext fun l_2' => funext fun id1_2' => funext fun i_1' => funext fun names' => funext fun j' => (ref24_named.l1.eq n m0 l_2' id1_2' i_1' names' n j').trans (congr1 (fun kk => ref24_named.l1 n l_2' id1_2' i_1' names' kk n j') (funext fun l_1'' => funext fun id1_1'' => funext fun i'' => ref24_named.l0.eq n l_1'' id1_1'' m0 i''))))
theorem ref24_named.run0 (n : Nat) (x : pdens ref24_named.ps) : Vi.run (ref24_named.C n) n f140 ref24_named.ps ref24_named.rs x = ref24_named.s n (fun (l_1' : (List Group)) (id1_1' : Int) (i' : Int) => it (EmR.no _) (ref24_named.C n) n (Code.go ref24_named.code [1, 0, 1, 0, 0]) (blockK 0 (seqK (EmR.no _) (ref24_named.C n) n (Code.go ref24_named.code [1, 1]) (bodyK (ref24_named.C n) f140 ref24_named.rs))) n ⟨[(0, .dat (.slc TGroup) (l_1')), (1, .dat (.int .i64) (id1_1')), (5, .dat (.int .i64) (i'))], []⟩) x.1 x.2 := by kernel_rfl
theorem ref24_named.eq (n : Nat) (x : pdens ref24_named.ps) : Vi.run (ref24_named.C n) n f140 ref24_named.ps ref24_named.rs x = ref24_named n x.1 x.2 :=
  (ref24_named.run0 n x).trans (congr1 (fun k0 => ref24_named.s n k0 x.1 x.2) (funext fun l_1' => funext fun id1_1' => funext fun i' => ref24_named.l0.eq n l_1' id1_1' n i'))
theorem ref24_named.sound (n : Nat) : SoundE prog 140 (ref24_named.e n) :=
  soundE_of_run (C := ref24_named.C n) (n := n) (ref24_named.ok n) func140 (by kernel_rfl) (by kernel_rfl) (fun x r h => (ref24_named.eq n x).trans h)

def ref24_gone.rs : List RTy := [.fresh TGroup, .data TFault]
def ref24_gone.ps : List PTy := [.data (.slc TGroup), .data (.int .i64)]
noncomputable def ref24_gone.e (n : Nat) : Ent := ⟨ref24_gone.ps, ref24_gone.rs, fun x => ref24_gone n x.1 x.2⟩
noncomputable def ref24_gone.C (n : Nat) : Ctx := { tab := tab, fts := fts, pts := pts, Γ := lookO [(93, ref24_bad.e n), (94, ref24_place.e n), (140, ref24_named.e n)], Γc := lookO [], Γs := lookO [], Γm := lookO [], Γo := lookO [], Γd := lookO [], ntmps := f92.ntmps, keep := Vi.look ([], []) [(9, ([0, 1, 5, 6, 7], [5]))], pins := [] }
theorem ref24_gone.ok (n : Nat) : CtxOk prog (ref24_gone.C n) := ⟨types, ftsOk_, ptsOk_, (fns_cons (ref24_bad.sound n) (fns_cons (ref24_place.sound n) (fns_cons (ref24_named.sound n) fns_nil))), cls_nil, sqs_nil, ems_nil, mixed, ons_nil, des_nil⟩
noncomputable def ref24_gone.code : Code := bodyOf f92
theorem ref24_gone.l0.step (n : Nat) (m0 : Nat) (l_1 : (List Group)) (id1_1 : Int) (out : (List Group)) (i : Int) (v5 : Fault) : it (EmR.no _) (ref24_gone.C n) n (Code.go ref24_gone.code [1, 1, 1, 1, 1, 0, 1, 0, 0]) (blockK 0 (seqK (EmR.no _) (ref24_gone.C n) n (Code.go ref24_gone.code [1, 1, 1, 1, 1, 1]) (bodyK (ref24_gone.C n) f92 ref24_gone.rs))) (m0 + 1) ⟨[(0, .dat (.slc TGroup) l_1), (1, .dat (.int .i64) id1_1), (5, .ptr 5 0 TFault []), (6, .lst (.tip 100006 0) TGroup out), (7, .dat (.int .i64) i)], [(100006, .tok 0), (5, .box 0 false (.dat TFault v5))]⟩ = ref24_gone.s0 n (fun (out' : (List Group)) (i' : Int) => it (EmR.no _) (ref24_gone.C n) n (Code.go ref24_gone.code [1, 1, 1, 1, 1, 0, 1, 0, 0]) (blockK 0 (seqK (EmR.no _) (ref24_gone.C n) n (Code.go ref24_gone.code [1, 1, 1, 1, 1, 1]) (bodyK (ref24_gone.C n) f92 ref24_gone.rs))) m0 ⟨[(0, .dat (.slc TGroup) l_1), (1, .dat (.int .i64) id1_1), (5, .ptr 5 0 TFault []), (6, .lst (.tip 100006 0) TGroup (out')), (7, .dat (.int .i64) (i'))], [(100006, .tok 0), (5, .box 0 false (.dat TFault v5))]⟩) l_1 id1_1 out i v5 := by kernel_rfl
theorem ref24_gone.l0.eq (n : Nat) (l_1 : (List Group)) (id1_1 : Int) (v5 : Fault) : ∀ (m0 : Nat) (out : (List Group)) (i : Int), it (EmR.no _) (ref24_gone.C n) n (Code.go ref24_gone.code [1, 1, 1, 1, 1, 0, 1, 0, 0]) (blockK 0 (seqK (EmR.no _) (ref24_gone.C n) n (Code.go ref24_gone.code [1, 1, 1, 1, 1, 1]) (bodyK (ref24_gone.C n) f92 ref24_gone.rs))) m0 ⟨[(0, .dat (.slc TGroup) l_1), (1, .dat (.int .i64) id1_1), (5, .ptr 5 0 TFault []), (6, .lst (.tip 100006 0) TGroup out), (7, .dat (.int .i64) i)], [(100006, .tok 0), (5, .box 0 false (.dat TFault v5))]⟩ = ref24_gone.l0 n l_1 id1_1 v5 m0 out i
  | 0, _, _ => rfl
  | m0 + 1, out, i =>
    (ref24_gone.l0.step n m0 l_1 id1_1 out i v5).trans (congr1 (fun k0 => ref24_gone.s0 n k0 l_1 id1_1 out i v5) (funext fun out' => funext fun i' => ref24_gone.l0.eq n l_1 id1_1 v5 m0 out' i'))
theorem ref24_gone.run0 (n : Nat) (x : pdens ref24_gone.ps) : Vi.run (ref24_gone.C n) n f92 ref24_gone.ps ref24_gone.rs x = ref24_gone.s n (fun (l_1' : (List Group)) (id1_1' : Int) (out' : (List Group)) (i' : Int) (v5' : Fault) => it (EmR.no _) (ref24_gone.C n) n (Code.go ref24_gone.code [1, 1, 1, 1, 1, 0, 1, 0, 0]) (blockK 0 (seqK (EmR.no _) (ref24_gone.C n) n (Code.go ref24_gone.code [1, 1, 1, 1, 1, 1]) (bodyK (ref24_gone.C n) f92 ref24_gone.rs))) n ⟨[(0, .dat (.slc TGroup) (l_1')), (1, .dat (.int .i64) (id1_1')), (5, .ptr 5 0 TFault []), (6, .lst (.tip 100006 0) TGroup (out')), (7, .dat (.int .i64) (i'))], [(100006, .tok 0), (5, .box 0 false (.dat TFault (v5')))]⟩) x.1 x.2 := by kernel_rfl
theorem ref24_gone.eq (n : Nat) (x : pdens ref24_gone.ps) : Vi.run (ref24_gone.C n) n f92 ref24_gone.ps ref24_gone.rs x = ref24_gone n x.1 x.2 :=
  (ref24_gone.run0 n x).trans (congr1 (fun k0 => ref24_gone.s n k0 x.1 x.2) (funext fun l_1' => funext fun id1_1' => funext fun out' => funext fun i' => funext fun v5' => ref24_gone.l0.eq n l_1' id1_1' v5' n out' i'))
theorem ref24_gone.sound (n : Nat) : SoundE prog 92 (ref24_gone.e n) :=
  soundE_of_run (C := ref24_gone.C n) (n := n) (ref24_gone.ok n) func92 (by kernel_rfl) (by kernel_rfl) (fun x r h => (ref24_gone.eq n x).trans h)

def ref24_one.rs : List RTy := [.data TFault]
def ref24_one.ps : List PTy := [.data (.int .i64), .data TBucket]
noncomputable def ref24_one.e (n : Nat) : Ent := ⟨ref24_one.ps, ref24_one.rs, fun x => some (ref24_one x.1 x.2)⟩
noncomputable def ref24_one.C (n : Nat) : Ctx := { tab := tab, fts := fts, pts := pts, Γ := lookO [(93, ref24_bad.e n)], Γc := lookO [], Γs := lookO [], Γm := lookO [], Γo := lookO [], Γd := lookO [], ntmps := f109.ntmps, keep := Vi.look ([], []) [], pins := [] }
theorem ref24_one.ok (n : Nat) : CtxOk prog (ref24_one.C n) := ⟨types, ftsOk_, ptsOk_, (fns_cons (ref24_bad.sound n) fns_nil), cls_nil, sqs_nil, ems_nil, mixed, ons_nil, des_nil⟩
theorem ref24_one.run0 (n : Nat) (x : pdens ref24_one.ps) : Vi.run (ref24_one.C n) n f109 ref24_one.ps ref24_one.rs x = ref24_one.o x.1 x.2 := by kernel_rfl
theorem ref24_one.eq (n : Nat) (x : pdens ref24_one.ps) : Vi.run (ref24_one.C n) n f109 ref24_one.ps ref24_one.rs x = some (ref24_one x.1 x.2) := (ref24_one.run0 n x).trans (ref24_one.o_eq _ _)
theorem ref24_one.sound (n : Nat) : SoundE prog 109 (ref24_one.e n) :=
  soundE_of_run (C := ref24_one.C n) (n := n) (ref24_one.ok n) func109 (by kernel_rfl) (by kernel_rfl) (fun x r h => (ref24_one.eq n x).trans h)

def ref24_Check.rs : List RTy := [.data TFault]
def ref24_Check.ps : List PTy := [.data (.int .i64), .data (.slc TBucket)]
noncomputable def ref24_Check.e (n : Nat) : Ent := ⟨ref24_Check.ps, ref24_Check.rs, fun x => ref24_Check n x.1 x.2⟩
noncomputable def ref24_Check.C (n : Nat) : Ctx := { tab := tab, fts := fts, pts := pts, Γ := lookO [(93, ref24_bad.e n), (109, ref24_one.e n)], Γc := lookO [], Γs := lookO [], Γm := lookO [], Γo := lookO [], Γd := lookO [], ntmps := f64.ntmps, keep := Vi.look ([], []) [(8, ([0, 1, 4, 5], [4]))], pins := [] }
theorem ref24_Check.ok (n : Nat) : CtxOk prog (ref24_Check.C n) := ⟨types, ftsOk_, ptsOk_, (fns_cons (ref24_bad.sound n) (fns_cons (ref24_one.sound n) fns_nil)), cls_nil, sqs_nil, ems_nil, mixed, ons_nil, des_nil⟩
noncomputable def ref24_Check.code : Code := bodyOf f64
theorem ref24_Check.l0.step (n : Nat) (m0 : Nat) (kind_1 : Int) (l_1 : (List Bucket)) (i : Int) (v4 : Fault) : it (EmR.no _) (ref24_Check.C n) n (Code.go ref24_Check.code [1, 1, 0, 1, 0, 0]) (blockK 1 (seqK (EmR.no _) (ref24_Check.C n) n (Code.go ref24_Check.code [1, 1, 1]) (bodyK (ref24_Check.C n) f64 ref24_Check.rs))) (m0 + 1) ⟨[(0, .dat (.int .i64) kind_1), (1, .dat (.slc TBucket) l_1), (4, .ptr 4 0 TFault []), (5, .dat (.int .i64) i)], [(4, .box 0 false (.dat TFault v4))]⟩ = ref24_Check.s0 n (fun (i' : Int) => it (EmR.no _) (ref24_Check.C n) n (Code.go ref24_Check.code [1, 1, 0, 1, 0, 0]) (blockK 1 (seqK (EmR.no _) (ref24_Check.C n) n (Code.go ref24_Check.code [1, 1, 1]) (bodyK (ref24_Check.C n) f64 ref24_Check.rs))) m0 ⟨[(0, .dat (.int .i64) kind_1), (1, .dat (.slc TBucket) l_1), (4, .ptr 4 0 TFault []), (5, .dat (.int .i64) (i'))], [(4, .box 0 false (.dat TFault v4))]⟩) kind_1 l_1 i v4 := by kernel_rfl
theorem ref24_Check.l0.eq (n : Nat) (kind_1 : Int) (l_1 : (List Bucket)) (v4 : Fault) : ∀ (m0 : Nat) (i : Int), it (EmR.no _) (ref24_Check.C n) n (Code.go ref24_Check.code [1, 1, 0, 1, 0, 0]) (blockK 1 (seqK (EmR.no _) (ref24_Check.C n) n (Code.go ref24_Check.code [1, 1, 1]) (bodyK (ref24_Check.C n) f64 ref24_Check.rs))) m0 ⟨[(0, .dat (.int .i64) kind_1), (1, .dat (.slc TBucket) l_1), (4, .ptr 4 0 TFault []), (5, .dat (.int .i64) i)], [(4, .box 0 false (.dat TFault v4))]⟩ = ref24_Check.l0 n kind_1 l_1 v4 m0 i
  | 0, _ => rfl
  | m0 + 1, i =>
    (ref24_Check.l0.step n m0 kind_1 l_1 i v4).trans (congr1 (fun k0 => ref24_Check.s0 n k0 kind_1 l_1 i v4) (funext fun i' => ref24_Check.l0.eq n kind_1 l_1 v4 m0 i'))
theorem ref24_Check.run0 (n : Nat) (x : pdens ref24_Check.ps) : Vi.run (ref24_Check.C n) n f64 ref24_Check.ps ref24_Check.rs x = ref24_Check.s n (fun (kind_1' : Int) (l_1' : (List Bucket)) (i' : Int) (v4' : Fault) => it (EmR.no _) (ref24_Check.C n) n (Code.go ref24_Check.code [1, 1, 0, 1, 0, 0]) (blockK 1 (seqK (EmR.no _) (ref24_Check.C n) n (Code.go ref24_Check.code [1, 1, 1]) (bodyK (ref24_Check.C n) f64 ref24_Check.rs))) n ⟨[(0, .dat (.int .i64) (kind_1')), (1, .dat (.slc TBucket) (l_1')), (4, .ptr 4 0 TFault []), (5, .dat (.int .i64) (i'))], [(4, .box 0 false (.dat TFault (v4')))]⟩) x.1 x.2 := by kernel_rfl
theorem ref24_Check.eq (n : Nat) (x : pdens ref24_Check.ps) : Vi.run (ref24_Check.C n) n f64 ref24_Check.ps ref24_Check.rs x = ref24_Check n x.1 x.2 :=
  (ref24_Check.run0 n x).trans (congr1 (fun k0 => ref24_Check.s n k0 x.1 x.2) (funext fun kind_1' => funext fun l_1' => funext fun i' => funext fun v4' => ref24_Check.l0.eq n kind_1' l_1' v4' n i'))
theorem ref24_Check.sound (n : Nat) : SoundE prog 64 (ref24_Check.e n) :=
  soundE_of_run (C := ref24_Check.C n) (n := n) (ref24_Check.ok n) func64 (by kernel_rfl) (by kernel_rfl) (fun x r h => (ref24_Check.eq n x).trans h)

def ref24_there.rs : List RTy := [.data .bool]
def ref24_there.ps : List PTy := [.data (.slc TGroup), .data (.slc TBucket)]
noncomputable def ref24_there.e (n : Nat) : Ent := ⟨ref24_there.ps, ref24_there.rs, fun x => ref24_there n x.1 x.2⟩
noncomputable def ref24_there.C (n : Nat) : Ctx := { tab := tab, fts := fts, pts := pts, Γ := lookO [(62, ref24_Names.e n), (94, ref24_place.e n)], Γc := lookO [], Γs := lookO [], Γm := lookO [], Γo := lookO [], Γd := lookO [], ntmps := f95.ntmps, keep := Vi.look ([], []) [(3, ([0, 5, 6], []))], pins := [] }
theorem ref24_there.ok (n : Nat) : CtxOk prog (ref24_there.C n) := ⟨types, ftsOk_, ptsOk_, (fns_cons (ref24_Names.sound n) (fns_cons (ref24_place.sound n) fns_nil)), cls_nil, sqs_nil, ems_nil, mixed, ons_nil, des_nil⟩
noncomputable def ref24_there.code : Code := bodyOf f95
theorem ref24_there.l0.step (n : Nat) (m0 : Nat) (l_1 : (List Group)) (names : (List Int)) (i : Int) : it (EmR.no _) (ref24_there.C n) n (Code.go ref24_there.code [1, 1, 0, 1, 0, 0]) (blockK 0 (seqK (EmR.no _) (ref24_there.C n) n (Code.go ref24_there.code [1, 1, 1]) (bodyK (ref24_there.C n) f95 ref24_there.rs))) (m0 + 1) ⟨[(0, .dat (.slc TGroup) l_1), (5, .lst (.tip 100005 0) (.int .i64) names), (6, .dat (.int .i64) i)], [(100005, .tok 0)]⟩ = ref24_there.s0 n (fun (i' : Int) => it (EmR.no _) (ref24_there.C n) n (Code.go ref24_there.code [1, 1, 0, 1, 0, 0]) (blockK 0 (seqK (EmR.no _) (ref24_there.C n) n (Code.go ref24_there.code [1, 1, 1]) (bodyK (ref24_there.C n) f95 ref24_there.rs))) m0 ⟨[(0, .dat (.slc TGroup) l_1), (5, .lst (.tip 100005 0) (.int .i64) names), (6, .dat (.int .i64) (i'))], [(100005, .tok 0)]⟩) l_1 names i := by kernel_rfl
theorem ref24_there.l0.eq (n : Nat) (l_1 : (List Group)) (names : (List Int)) : ∀ (m0 : Nat) (i : Int), it (EmR.no _) (ref24_there.C n) n (Code.go ref24_there.code [1, 1, 0, 1, 0, 0]) (blockK 0 (seqK (EmR.no _) (ref24_there.C n) n (Code.go ref24_there.code [1, 1, 1]) (bodyK (ref24_there.C n) f95 ref24_there.rs))) m0 ⟨[(0, .dat (.slc TGroup) l_1), (5, .lst (.tip 100005 0) (.int .i64) names), (6, .dat (.int .i64) i)], [(100005, .tok 0)]⟩ = ref24_there.l0 n l_1 names m0 i
  | 0, _ => rfl
  | m0 + 1, i =>
    (ref24_there.l0.step n m0 l_1 names i).trans (congr1 (fun k0 => ref24_there.s0 n k0 l_1 names i) (funext fun i' => ref24_there.l0.eq n l_1 names m0 i'))
theorem ref24_there.run0 (n : Nat) (x : pdens ref24_there.ps) : Vi.run (ref24_there.C n) n f95 ref24_there.ps ref24_there.rs x = ref24_there.s n (fun (l_1' : (List Group)) (names' : (List Int)) (i' : Int) => it (EmR.no _) (ref24_there.C n) n (Code.go ref24_there.code [1, 1, 0, 1, 0, 0]) (blockK 0 (seqK (EmR.no _) (ref24_there.C n) n (Code.go ref24_there.code [1, 1, 1]) (bodyK (ref24_there.C n) f95 ref24_there.rs))) n ⟨[(0, .dat (.slc TGroup) (l_1')), (5, .lst (.tip 100005 0) (.int .i64) (names')), (6, .dat (.int .i64) (i'))], [(100005, .tok 0)]⟩) x.1 x.2 := by kernel_rfl
theorem ref24_there.eq (n : Nat) (x : pdens ref24_there.ps) : Vi.run (ref24_there.C n) n f95 ref24_there.ps ref24_there.rs x = ref24_there n x.1 x.2 :=
  (ref24_there.run0 n x).trans (congr1 (fun k0 => ref24_there.s n k0 x.1 x.2) (funext fun l_1' => funext fun names' => funext fun i' => ref24_there.l0.eq n l_1' names' n i'))
theorem ref24_there.sound (n : Nat) : SoundE prog 95 (ref24_there.e n) :=
  soundE_of_run (C := ref24_there.C n) (n := n) (ref24_there.ok n) func95 (by kernel_rfl) (by kernel_rfl) (fun x r h => (ref24_there.eq n x).trans h)

def ref24_comes.rs : List RTy := [.fresh .bool]
def ref24_comes.ps : List PTy := [.data (.slc TGroup), .data (.int .i64)]
noncomputable def ref24_comes.e (n : Nat) : Ent := ⟨ref24_comes.ps, ref24_comes.rs, fun x => ref24_comes n x.1 x.2⟩
noncomputable def ref24_comes.C (n : Nat) : Ctx := { tab := tab, fts := fts, pts := pts, Γ := lookO [(62, ref24_Names.e n), (94, ref24_place.e n)], Γc := lookO [], Γs := lookO [], Γm := lookO [], Γo := lookO [], Γd := lookO [], ntmps := f105.ntmps, keep := Vi.look ([], []) [(3, ([0, 5, 6], [12])), (7, ([0, 5, 6, 7, 8], [12]))], pins := [], tails := [27] }
theorem ref24_comes.ok (n : Nat) : CtxOk prog (ref24_comes.C n) := ⟨types, ftsOk_, ptsOk_, (fns_cons (ref24_Names.sound n) (fns_cons (ref24_place.sound n) fns_nil)), cls_nil, sqs_nil, ems_nil, mixed, ons_nil, des_nil⟩
noncomputable def ref24_comes.code : Code := bodyOf f105
theorem ref24_comes.l1.step (n : Nat) (m0 : Nat) (m1 : Nat) (l_2 : (List Group)) (todo_1 : (List Int)) (names : (List Int)) (i : Int) (v12_1 : (List Bool)) : it (EmR.no _) (ref24_comes.C n) n (Code.go ref24_comes.code [1, 1, 1, 0, 0, 0, 1, 0, 1, 1, 1, 0, 0]) (blockK 2 (blockK 1 (loopK (EmR.no _) (ref24_comes.C n) n (Code.go ref24_comes.code [1, 1, 1, 0, 0, 0]) (blockK 0 (seqK (EmR.no _) (ref24_comes.C n) n (Code.go ref24_comes.code [1, 1, 1, 1]) (bodyK (ref24_comes.C n) f105 ref24_comes.rs))) m0))) (m1 + 1) ⟨[(0, .dat (.slc TGroup) l_2), (5, .vec 12 0 .bool), (6, .lst (.tip 100006 0) (.int .i64) todo_1), (7, .lst (.tip 100007 0) (.int .i64) names), (8, .dat (.int .i64) i)], [(100006, .tok 0), (100007, .tok 0), (12, .box 0 false (.row .bool v12_1))]⟩ = ref24_comes.s1 n (fun (todo_1' : (List Int)) (i' : Int) (v12_1' : (List Bool)) => it (EmR.no _) (ref24_comes.C n) n (Code.go ref24_comes.code [1, 1, 1, 0, 0, 0, 1, 0, 1, 1, 1, 0, 0]) (blockK 2 (blockK 1 (loopK (EmR.no _) (ref24_comes.C n) n (Code.go ref24_comes.code [1, 1, 1, 0, 0, 0]) (blockK 0 (seqK (EmR.no _) (ref24_comes.C n) n (Code.go ref24_comes.code [1, 1, 1, 1]) (bodyK (ref24_comes.C n) f105 ref24_comes.rs))) m0))) m1 ⟨[(0, .dat (.slc TGroup) l_2), (5, .vec 12 0 .bool), (6, .lst (.tip 100006 0) (.int .i64) (todo_1')), (7, .lst (.tip 100007 0) (.int .i64) names), (8, .dat (.int .i64) (i'))], [(100006, .tok 0), (100007, .tok 0), (12, .box 0 false (.row .bool (v12_1')))]⟩) (fun (l_1' : (List Group)) (todo' : (List Int)) (v12' : (List Bool)) => it (EmR.no _) (ref24_comes.C n) n (Code.go ref24_comes.code [1, 1, 1, 0, 0, 0]) (blockK 0 (seqK (EmR.no _) (ref24_comes.C n) n (Code.go ref24_comes.code [1, 1, 1, 1]) (bodyK (ref24_comes.C n) f105 ref24_comes.rs))) m0 ⟨[(0, .dat (.slc TGroup) (l_1')), (5, .vec 12 0 .bool), (6, .lst (.tip 100006 0) (.int .i64) (todo'))], [(100006, .tok 0), (12, .box 0 false (.row .bool (v12')))]⟩) l_2 todo_1 names i v12_1 := by kernel_rfl
theorem ref24_comes.l1.eq (n : Nat) (m0 : Nat) (l_2 : (List Group)) (names : (List Int)) : ∀ (m1 : Nat) (todo_1 : (List Int)) (i : Int) (v12_1 : (List Bool)), it (EmR.no _) (ref24_comes.C n) n (Code.go ref24_comes.code [1, 1, 1, 0, 0, 0, 1, 0, 1, 1, 1, 0, 0]) (blockK 2 (blockK 1 (loopK (EmR.no _) (ref24_comes.C n) n (Code.go ref24_comes.code [1, 1, 1, 0, 0, 0]) (blockK 0 (seqK (EmR.no _) (ref24_comes.C n) n (Code.go ref24_comes.code [1, 1, 1, 1]) (bodyK (ref24_comes.C n) f105 ref24_comes.rs))) m0))) m1 ⟨[(0, .dat (.slc TGroup) l_2), (5, .vec 12 0 .bool), (6, .lst (.tip 100006 0) (.int .i64) todo_1), (7, .lst (.tip 100007 0) (.int .i64) names), (8, .dat (.int .i64) i)], [(100006, .tok 0), (100007, .tok 0), (12, .box 0 false (.row .bool v12_1))]⟩ = ref24_comes.l1 n l_2 names (fun (l_1'' : (List Group)) (todo'' : (List Int)) (v12'' : (List Bool)) => it (EmR.no _) (ref24_comes.C n) n (Code.go ref24_comes.code [1, 1, 1, 0, 0, 0]) (blockK 0 (seqK (EmR.no _) (ref24_comes.C n) n (Code.go ref24_comes.code [1, 1, 1, 1]) (bodyK (ref24_comes.C n) f105 ref24_comes.rs))) m0 ⟨[(0, .dat (.slc TGroup) (l_1'')), (5, .vec 12 0 .bool), (6, .lst (.tip 100006 0) (.int .i64) (todo''))], [(100006, .tok 0), (12, .box 0 false (.row .bool (v12'')))]⟩) m1 todo_1 i v12_1
  | 0, _, _, _ => rfl
  | m1 + 1, todo_1, i, v12_1 =>
    (ref24_comes.l1.step n m0 m1 l_2 todo_1 names i v12_1).trans (congr2 (fun k1 k0 => ref24_comes.s1 n k1 k0 l_2 todo_1 names i v12_1) (funext fun todo_1' => funext fun i' => funext fun v12_1' => ref24_comes.l1.eq n m0 l_2 names m1 todo_1' i' v12_1') rfl)
theorem ref24_comes.l0.step (n : Nat) (m0 : Nat) (l_1 : (List Group)) (todo : (List Int)) (v12 : (List Bool)) : it (EmR.no _) (ref24_comes.C n) n (Code.go ref24_comes.code [1, 1, 1, 0, 0, 0]) (blockK 0 (seqK (EmR.no _) (ref24_comes.C n) n (Code.go ref24_comes.code [1, 1, 1, 1]) (bodyK (ref24_comes.C n) f105 ref24_comes.rs))) (m0 + 1) ⟨[(0, .dat (.slc TGroup) l_1), (5, .vec 12 0 .bool), (6, .lst (.tip 100006 0) (.int .i64) todo)], [(100006, .tok 0), (12, .box 0 false (.row .bool v12))]⟩ = ref24_comes.s0 n (fun (l_2' : (List Group)) (todo_1' : (List Int)) (names' : (List Int)) (i' : Int) (v12_1' : (List Bool)) => it (EmR.no _) (ref24_comes.C n) n (Code.go ref24_comes.code [1, 1, 1, 0, 0, 0, 1, 0, 1, 1, 1, 0, 0]) (blockK 2 (blockK 1 (loopK (EmR.no _) (ref24_comes.C n) n (Code.go ref24_comes.code [1, 1, 1, 0, 0, 0]) (blockK 0 (seqK (EmR.no _) (ref24_comes.C n) n (Code.go ref24_comes.code [1, 1, 1, 1]) (bodyK (ref24_comes.C n) f105 ref24_comes.rs))) m0))) n ⟨[(0, .dat (.slc TGroup) (l_2')), (5, .vec 12 0 .bool), (6, .lst (.tip 100006 0) (.int .i64) (todo_1')), (7, .lst (.tip 100007 0) (.int .i64) (names')), (8, .dat (.int .i64) (i'))], [(100006, .tok 0), (100007, .tok 0), (12, .box 0 false (.row .bool (v12_1')))]⟩) l_1 todo v12 := by kernel_rfl
theorem ref24_comes.l0.eq (n : Nat) (l_1 : (List Group)) : ∀ (m0 : Nat) (todo : (List Int)) (v12 : (List Bool)), it (EmR.no _) (ref24_comes.C n) n (Code.go ref24_comes.code [1, 1, 1, 0, 0, 0]) (blockK 0 (seqK (EmR.no _) (ref24_comes.C n) n (Code.go ref24_comes.code [1, 1, 1, 1]) (bodyK (ref24_comes.C n) f105 ref24_comes.rs))) m0 ⟨[(0, .dat (.slc TGroup) l_1), (5, .vec 12 0 .bool), (6, .lst (.tip 100006 0) (.int .i64) todo)], [(100006, .tok 0), (12, .box 0 false (.row .bool v12))]⟩ = ref24_comes.l0 n l_1 m0 todo v12
  | 0, _, _ => rfl
  | m0 + 1, todo, v12 =>
    (ref24_comes.l0.step n m0 l_1 todo v12).trans (congr1 (fun k1 => ref24_comes.s0 n k1 l_1 todo v12) (funext fun l_2' => funext fun todo_1' => funext fun names' => funext fun i' => funext fun v12_1' => (ref24_comes.l1.eq n m0 l_2' names' n todo_1' i' v12_1').trans (congr1 (fun kk => ref24_comes.l1 n l_2' names' kk n todo_1' i' v12_1') (funext fun l_1'' => funext fun todo'' => funext fun v12'' => ref24_comes.l0.eq n l_1'' m0 todo'' v12''))))
theorem ref24_comes.run0 (n : Nat) (x : pdens ref24_comes.ps) : Vi.run (ref24_comes.C n) n f105 ref24_comes.ps ref24_comes.rs x = ref24_comes.s n (fun (l_1' : (List Group)) (todo' : (List Int)) (v12' : (List Bool)) => it (EmR.no _) (ref24_comes.C n) n (Code.go ref24_comes.code [1, 1, 1, 0, 0, 0]) (blockK 0 (seqK (EmR.no _) (ref24_comes.C n) n (Code.go ref24_comes.code [1, 1, 1, 1]) (bodyK (ref24_comes.C n) f105 ref24_comes.rs))) n ⟨[(0, .dat (.slc TGroup) (l_1')), (5, .vec 12 0 .bool), (6, .lst (.tip 100006 0) (.int .i64) (todo'))], [(100006, .tok 0), (12, .box 0 false (.row .bool (v12')))]⟩) x.1 x.2 := by kernel_rfl
theorem ref24_comes.eq (n : Nat) (x : pdens ref24_comes.ps) : Vi.run (ref24_comes.C n) n f105 ref24_comes.ps ref24_comes.rs x = ref24_comes n x.1 x.2 :=
  (ref24_comes.run0 n x).trans (congr1 (fun k0 => ref24_comes.s n k0 x.1 x.2) (funext fun l_1' => funext fun todo' => funext fun v12' => ref24_comes.l0.eq n l_1' n todo' v12'))
theorem ref24_comes.sound (n : Nat) : SoundE prog 105 (ref24_comes.e n) :=
  soundE_of_run (C := ref24_comes.C n) (n := n) (ref24_comes.ok n) func105 (by kernel_rfl) (by kernel_rfl) (fun x r h => (ref24_comes.eq n x).trans h)

def ref24_Loop.rs : List RTy := [.data .bool]
def ref24_Loop.ps : List PTy := [.data (.slc TGroup)]
noncomputable def ref24_Loop.e (n : Nat) : Ent := ⟨ref24_Loop.ps, ref24_Loop.rs, fun x => ref24_Loop n x⟩
noncomputable def ref24_Loop.C (n : Nat) : Ctx := { tab := tab, fts := fts, pts := pts, Γ := lookO [(105, ref24_comes.e n)], Γc := lookO [], Γs := lookO [], Γm := lookO [], Γo := lookO [], Γd := lookO [], ntmps := f60.ntmps, keep := Vi.look ([], []) [(2, ([0, 3], [])), (6, ([0, 3, 4, 5], []))], pins := [] }
theorem ref24_Loop.ok (n : Nat) : CtxOk prog (ref24_Loop.C n) := ⟨types, ftsOk_, ptsOk_, (fns_cons (ref24_comes.sound n) fns_nil), cls_nil, sqs_nil, ems_nil, mixed, ons_nil, des_nil⟩
noncomputable def ref24_Loop.code : Code := bodyOf f60
theorem ref24_Loop.l1.step (n : Nat) (m0 : Nat) (m1 : Nat) (l_2 : (List Group)) (i_1 : Int) (is : (List Bool)) (j : Int) : it (EmR.no _) (ref24_Loop.C n) n (Code.go ref24_Loop.code [1, 0, 1, 0, 0, 1, 0, 0, 1, 1, 0, 0]) (blockK 2 (blockK 1 (seqK (EmR.no _) (ref24_Loop.C n) n (Code.go ref24_Loop.code [1, 0, 1, 0, 0, 1, 1]) (loopK (EmR.no _) (ref24_Loop.C n) n (Code.go ref24_Loop.code [1, 0, 1, 0, 0]) (blockK 0 (seqK (EmR.no _) (ref24_Loop.C n) n (Code.go ref24_Loop.code [1, 1]) (bodyK (ref24_Loop.C n) f60 ref24_Loop.rs))) m0)))) (m1 + 1) ⟨[(0, .dat (.slc TGroup) l_2), (3, .dat (.int .i64) i_1), (4, .lst (.tip 100004 0) .bool is), (5, .dat (.int .i64) j)], [(100004, .tok 0)]⟩ = ref24_Loop.s1 n (fun (j' : Int) => it (EmR.no _) (ref24_Loop.C n) n (Code.go ref24_Loop.code [1, 0, 1, 0, 0, 1, 0, 0, 1, 1, 0, 0]) (blockK 2 (blockK 1 (seqK (EmR.no _) (ref24_Loop.C n) n (Code.go ref24_Loop.code [1, 0, 1, 0, 0, 1, 1]) (loopK (EmR.no _) (ref24_Loop.C n) n (Code.go ref24_Loop.code [1, 0, 1, 0, 0]) (blockK 0 (seqK (EmR.no _) (ref24_Loop.C n) n (Code.go ref24_Loop.code [1, 1]) (bodyK (ref24_Loop.C n) f60 ref24_Loop.rs))) m0)))) m1 ⟨[(0, .dat (.slc TGroup) l_2), (3, .dat (.int .i64) i_1), (4, .lst (.tip 100004 0) .bool is), (5, .dat (.int .i64) (j'))], [(100004, .tok 0)]⟩) (fun (l_1' : (List Group)) (i' : Int) => it (EmR.no _) (ref24_Loop.C n) n (Code.go ref24_Loop.code [1, 0, 1, 0, 0]) (blockK 0 (seqK (EmR.no _) (ref24_Loop.C n) n (Code.go ref24_Loop.code [1, 1]) (bodyK (ref24_Loop.C n) f60 ref24_Loop.rs))) m0 ⟨[(0, .dat (.slc TGroup) (l_1')), (3, .dat (.int .i64) (i'))], []⟩) l_2 i_1 is j := by kernel_rfl
theorem ref24_Loop.l1.eq (n : Nat) (m0 : Nat) (l_2 : (List Group)) (i_1 : Int) (is : (List Bool)) : ∀ (m1 : Nat) (j : Int), it (EmR.no _) (ref24_Loop.C n) n (Code.go ref24_Loop.code [1, 0, 1, 0, 0, 1, 0, 0, 1, 1, 0, 0]) (blockK 2 (blockK 1 (seqK (EmR.no _) (ref24_Loop.C n) n (Code.go ref24_Loop.code [1, 0, 1, 0, 0, 1, 1]) (loopK (EmR.no _) (ref24_Loop.C n) n (Code.go ref24_Loop.code [1, 0, 1, 0, 0]) (blockK 0 (seqK (EmR.no _) (ref24_Loop.C n) n (Code.go ref24_Loop.code [1, 1]) (bodyK (ref24_Loop.C n) f60 ref24_Loop.rs))) m0)))) m1 ⟨[(0, .dat (.slc TGroup) l_2), (3, .dat (.int .i64) i_1), (4, .lst (.tip 100004 0) .bool is), (5, .dat (.int .i64) j)], [(100004, .tok 0)]⟩ = ref24_Loop.l1 n l_2 i_1 is (fun (l_1'' : (List Group)) (i'' : Int) => it (EmR.no _) (ref24_Loop.C n) n (Code.go ref24_Loop.code [1, 0, 1, 0, 0]) (blockK 0 (seqK (EmR.no _) (ref24_Loop.C n) n (Code.go ref24_Loop.code [1, 1]) (bodyK (ref24_Loop.C n) f60 ref24_Loop.rs))) m0 ⟨[(0, .dat (.slc TGroup) (l_1'')), (3, .dat (.int .i64) (i''))], []⟩) m1 j
  | 0, _ => rfl
  | m1 + 1, j =>
    (ref24_Loop.l1.step n m0 m1 l_2 i_1 is j).trans (congr2 (fun k1 k0 => ref24_Loop.s1 n k1 k0 l_2 i_1 is j) (funext fun j' => ref24_Loop.l1.eq n m0 l_2 i_1 is m1 j') rfl)
theorem ref24_Loop.l0.step (n : Nat) (m0 : Nat) (l_1 : (List Group)) (i : Int) : it (EmR.no _) (ref24_Loop.C n) n (Code.go ref24_Loop.code [1, 0, 1, 0, 0]) (blockK 0 (seqK (EmR.no _) (ref24_Loop.C n) n (Code.go ref24_Loop.code [1, 1]) (bodyK (ref24_Loop.C n) f60 ref24_Loop.rs))) (m0 + 1) ⟨[(0, .dat (.slc TGroup) l_1), (3, .dat (.int .i64) i)], []⟩ = ref24_Loop.s0 n (fun (l_2' : (List Group)) (i_1' : Int) (is' : (List Bool)) (j' : Int) => it (EmR.no _) (ref24_Loop.C n) n (Code.go ref24_Loop.code [1, 0, 1, 0, 0, 1, 0, 0, 1, 1, 0, 0]) (blockK 2 (blockK 1 (seqK (EmR.no _) (ref24_Loop.C n) n (Code.go ref24_Loop.code [1, 0, 1, 0, 0, 1, 1]) (loopK (EmR.no _) (ref24_Loop.C n) n (Code.go ref24_Loop.code [1, 0, 1, 0, 0]) (blockK 0 (seqK (EmR.no _) (ref24_Loop.C n) n (Code.go ref24_Loop.code [1, 1]) (bodyK (ref24_Loop.C n) f60 ref24_Loop.rs))) m0)))) n ⟨[(0, .dat (.slc TGroup) (l_2')), (3, .dat (.int .i64) (i_1')), (4, .lst (.tip 100004 0) .bool (is')), (5, .dat (.int .i64) (j'))], [(100004, .tok 0)]⟩) l_1 i := by kernel_rfl
theorem ref24_Loop.l0.eq (n : Nat) (l_1 : (List Group)) : ∀ (m0 : Nat) (i : Int), it (EmR.no _) (ref24_Loop.C n) n (Code.go ref24_Loop.code [1, 0, 1, 0, 0]) (blockK 0 (seqK (EmR.no _) (ref24_Loop.C n) n (Code.go ref24_Loop.code [1, 1]) (bodyK (ref24_Loop.C n) f60 ref24_Loop.rs))) m0 ⟨[(0, .dat (.slc TGroup) l_1), (3, .dat (.int .i64) i)], []⟩ = ref24_Loop.l0 n l_1 m0 i
  | 0, _ => rfl
  | m0 + 1, i =>
    (ref24_Loop.l0.step n m0 l_1 i).trans (congr1 (fun k1 => ref24_Loop.s0 n k1 l_1 i) (funext fun l_2' => funext fun i_1' => funext fun is' => funext fun j' => (ref24_Loop.l1.eq n m0 l_2' i_1' is' n j').trans (congr1 (fun kk => ref24_Loop.l1 n l_2' i_1' is' kk n j') (funext fun l_1'' => funext fun i'' => ref24_Loop.l0.eq n l_1'' m0 i''))))
theorem ref24_Loop.run0 (n : Nat) (x : pdens ref24_Loop.ps) : Vi.run (ref24_Loop.C n) n f60 ref24_Loop.ps ref24_Loop.rs x = ref24_Loop.s n (fun (l_1' : (List Group)) (i' : Int) => it (EmR.no _) (ref24_Loop.C n) n (Code.go ref24_Loop.code [1, 0, 1, 0, 0]) (blockK 0 (seqK (EmR.no _) (ref24_Loop.C n) n (Code.go ref24_Loop.code [1, 1]) (bodyK (ref24_Loop.C n) f60 ref24_Loop.rs))) n ⟨[(0, .dat (.slc TGroup) (l_1')), (3, .dat (.int .i64) (i'))], []⟩) x := by kernel_rfl
theorem ref24_Loop.eq (n : Nat) (x : pdens ref24_Loop.ps) : Vi.run (ref24_Loop.C n) n f60 ref24_Loop.ps ref24_Loop.rs x = ref24_Loop n x :=
  (ref24_Loop.run0 n x).trans (congr1 (fun k0 => ref24_Loop.s n k0 x) (funext fun l_1' => funext fun i' => ref24_Loop.l0.eq n l_1' n i'))
theorem ref24_Loop.sound (n : Nat) : SoundE prog 60 (ref24_Loop.e n) :=
  soundE_of_run (C := ref24_Loop.C n) (n := n) (ref24_Loop.ok n) func60 (by kernel_rfl) (by kernel_rfl) (fun x r h => (ref24_Loop.eq n x).trans h)

def ref24_Do.rs : List RTy := [.data (.slc TGroup), .data TFault]
def ref24_Do.ps : List PTy := [.data (.slc TGroup), .data TGroupMod]
noncomputable def ref24_Do.e (n : Nat) : Ent := ⟨ref24_Do.ps, ref24_Do.rs, fun x => ref24_Do n x.1 x.2⟩
noncomputable def ref24_Do.C (n : Nat) : Ctx := { tab := tab, fts := fts, pts := pts, Γ := lookO [(60, ref24_Loop.e n), (64, ref24_Check.e n), (92, ref24_gone.e n), (93, ref24_bad.e n), (94, ref24_place.e n), (95, ref24_there.e n)], Γc := lookO [], Γs := lookO [], Γm := lookO [], Γo := lookO [], Γd := lookO [], ntmps := f44.ntmps, keep := Vi.look ([], []) [], pins := [], owns := [80] }
theorem ref24_Do.ok (n : Nat) : CtxOk prog (ref24_Do.C n) := ⟨types, ftsOk_, ptsOk_, (fns_cons (ref24_Loop.sound n) (fns_cons (ref24_Check.sound n) (fns_cons (ref24_gone.sound n) (fns_cons (ref24_bad.sound n) (fns_cons (ref24_place.sound n) (fns_cons (ref24_there.sound n) fns_nil)))))), cls_nil, sqs_nil, ems_nil, mixed, ons_nil, des_nil⟩
theorem ref24_Do.eq (n : Nat) (x : pdens ref24_Do.ps) : Vi.run (ref24_Do.C n) n f44 ref24_Do.ps ref24_Do.rs x = ref24_Do n x.1 x.2 := by kernel_rfl
theorem ref24_Do.sound (n : Nat) : SoundE prog 44 (ref24_Do.e n) :=
  soundE_of_run (C := ref24_Do.C n) (n := n) (ref24_Do.ok n) func44 (by kernel_rfl) (by kernel_rfl) (fun x r h => (ref24_Do.eq n x).trans h)

def ref10_Same.rs : List RTy := [.data .bool]
def ref10_Same.ps : List PTy := [.data TOxm, .data TOxm]
noncomputable def ref10_Same.e (n : Nat) : Ent := ⟨ref10_Same.ps, ref10_Same.rs, fun x => some (ref10_Same x.1 x.2)⟩
noncomputable def ref10_Same.C (n : Nat) : Ctx := { tab := tab, fts := fts, pts := pts, Γ := lookO [], Γc := lookO [], Γs := lookO [], Γm := lookO [], Γo := lookO [], Γd := lookO [], ntmps := f176.ntmps, keep := Vi.look ([], []) [], pins := [] }
theorem ref10_Same.ok (n : Nat) : CtxOk prog (ref10_Same.C n) := ⟨types, ftsOk_, ptsOk_, fns_nil, cls_nil, sqs_nil, ems_nil, mixed, ons_nil, des_nil⟩
theorem ref10_Same.run0 (n : Nat) (x : pdens ref10_Same.ps) : Vi.run (ref10_Same.C n) n f176 ref10_Same.ps ref10_Same.rs x = ref10_Same.o x.1 x.2 := by kernel_rfl
theorem ref10_Same.eq (n : Nat) (x : pdens ref10_Same.ps) : Vi.run (ref10_Same.C n) n f176 ref10_Same.ps ref10_Same.rs x = some (ref10_Same x.1 x.2) := (ref10_Same.run0 n x).trans (ref10_Same.o_eq _ _)
theorem ref10_Same.sound (n : Nat) : SoundE prog 176 (ref10_Same.e n) :=
  soundE_of_run (C := ref10_Same.C n) (n := n) (ref10_Same.ok n) func176 (by kernel_rfl) (by kernel_rfl) (fun x r h => (ref10_Same.eq n x).trans h)

def ref12_Same.rs : List RTy := [.data .bool]
def ref12_Same.ps : List PTy := [.data TAction, .data TAction]
noncomputable def ref12_Same.e (n : Nat) : Ent := ⟨ref12_Same.ps, ref12_Same.rs, fun x => some (ref12_Same x.1 x.2)⟩
noncomputable def ref12_Same.C (n : Nat) : Ctx := { tab := tab, fts := fts, pts := pts, Γ := lookO [(176, ref10_Same.e n)], Γc := lookO [], Γs := lookO [], Γm := lookO [], Γo := lookO [], Γd := lookO [], ntmps := f167.ntmps, keep := Vi.look ([], []) [], pins := [] }
theorem ref12_Same.ok (n : Nat) : CtxOk prog (ref12_Same.C n) := ⟨types, ftsOk_, ptsOk_, (fns_cons (ref10_Same.sound n) fns_nil), cls_nil, sqs_nil, ems_nil, mixed, ons_nil, des_nil⟩
theorem ref12_Same.run0 (n : Nat) (x : pdens ref12_Same.ps) : Vi.run (ref12_Same.C n) n f167 ref12_Same.ps ref12_Same.rs x = ref12_Same.o x.1 x.2 := by kernel_rfl
theorem ref12_Same.eq (n : Nat) (x : pdens ref12_Same.ps) : Vi.run (ref12_Same.C n) n f167 ref12_Same.ps ref12_Same.rs x = some (ref12_Same x.1 x.2) := (ref12_Same.run0 n x).trans (ref12_Same.o_eq _ _)
theorem ref12_Same.sound (n : Nat) : SoundE prog 167 (ref12_Same.e n) :=
  soundE_of_run (C := ref12_Same.C n) (n := n) (ref12_Same.ok n) func167 (by kernel_rfl) (by kernel_rfl) (fun x r h => (ref12_Same.eq n x).trans h)

def ref13_Same.rs : List RTy := [.data .bool]
def ref13_Same.ps : List PTy := [.data (.slc TAction), .data (.slc TAction)]
noncomputable def ref13_Same.e (n : Nat) : Ent := ⟨ref13_Same.ps, ref13_Same.rs, fun x => ref13_Same n x.1 x.2⟩
noncomputable def ref13_Same.C (n : Nat) : Ctx := { tab := tab, fts := fts, pts := pts, Γ := lookO [(167, ref12_Same.e n)], Γc := lookO [], Γs := lookO [], Γm := lookO [], Γo := lookO [], Γd := lookO [], ntmps := f141.ntmps, keep := Vi.look ([], []) [(4, ([0, 1, 5], []))], pins := [] }
theorem ref13_Same.ok (n : Nat) : CtxOk prog (ref13_Same.C n) := ⟨types, ftsOk_, ptsOk_, (fns_cons (ref12_Same.sound n) fns_nil), cls_nil, sqs_nil, ems_nil, mixed, ons_nil, des_nil⟩
noncomputable def ref13_Same.code : Code := bodyOf f141
theorem ref13_Same.l0.step (n : Nat) (m0 : Nat) (a_1 : (List Action)) (b_1 : (List Action)) (i : Int) : it (EmR.no _) (ref13_Same.C n) n (Code.go ref13_Same.code [1, 1, 0, 1, 0, 0]) (blockK 0 (seqK (EmR.no _) (ref13_Same.C n) n (Code.go ref13_Same.code [1, 1, 1]) (bodyK (ref13_Same.C n) f141 ref13_Same.rs))) (m0 + 1) ⟨[(0, .dat (.slc TAction) a_1), (1, .dat (.slc TAction) b_1), (5, .dat (.int .i64) i)], []⟩ = ref13_Same.s0 n (fun (i' : Int) => it (EmR.no _) (ref13_Same.C n) n (Code.go ref13_Same.code [1, 1, 0, 1, 0, 0]) (blockK 0 (seqK (EmR.no _) (ref13_Same.C n) n (Code.go ref13_Same.code [1, 1, 1]) (bodyK (ref13_Same.C n) f141 ref13_Same.rs))) m0 ⟨[(0, .dat (.slc TAction) a_1), (1, .dat (.slc TAction) b_1), (5, .dat (.int .i64) (i'))], []⟩) a_1 b_1 i := by kernel_rfl
theorem ref13_Same.l0.eq (n : Nat) (a_1 : (List Action)) (b_1 : (List Action)) : ∀ (m0 : Nat) (i : Int), it (EmR.no _) (ref13_Same.C n) n (Code.go ref13_Same.code [1, 1, 0, 1, 0, 0]) (blockK 0 (seqK (EmR.no _) (ref13_Same.C n) n (Code.go ref13_Same.code [1, 1, 1]) (bodyK (ref13_Same.C n) f141 ref13_Same.rs))) m0 ⟨[(0, .dat (.slc TAction) a_1), (1, .dat (.slc TAction) b_1), (5, .dat (.int .i64) i)], []⟩ = ref13_Same.l0 n a_1 b_1 m0 i
  | 0, _ => rfl
  | m0 + 1, i =>
    (ref13_Same.l0.step n m0 a_1 b_1 i).trans (congr1 (fun k0 => ref13_Same.s0 n k0 a_1 b_1 i) (funext fun i' => ref13_Same.l0.eq n a_1 b_1 m0 i'))
theorem ref13_Same.run0 (n : Nat) (x : pdens ref13_Same.ps) : Vi.run (ref13_Same.C n) n f141 ref13_Same.ps ref13_Same.rs x = ref13_Same.s n (fun (a_1' : (List Action)) (b_1' : (List Action)) (i' : Int) => it (EmR.no _) (ref13_Same.C n) n (Code.go ref13_Same.code [1, 1, 0, 1, 0, 0]) (blockK 0 (seqK (EmR.no _) (ref13_Same.C n) n (Code.go ref13_Same.code [1, 1, 1]) (bodyK (ref13_Same.C n) f141 ref13_Same.rs))) n ⟨[(0, .dat (.slc TAction) (a_1')), (1, .dat (.slc TAction) (b_1')), (5, .dat (.int .i64) (i'))], []⟩) x.1 x.2 := by kernel_rfl
theorem ref13_Same.eq (n : Nat) (x : pdens ref13_Same.ps) : Vi.run (ref13_Same.C n) n f141 ref13_Same.ps ref13_Same.rs x = ref13_Same n x.1 x.2 :=
  (ref13_Same.run0 n x).trans (congr1 (fun k0 => ref13_Same.s n k0 x.1 x.2) (funext fun a_1' => funext fun b_1' => funext fun i' => ref13_Same.l0.eq n a_1' b_1' n i'))
theorem ref13_Same.sound (n : Nat) : SoundE prog 141 (ref13_Same.e n) :=
  soundE_of_run (C := ref13_Same.C n) (n := n) (ref13_Same.ok n) func141 (by kernel_rfl) (by kernel_rfl) (fun x r h => (ref13_Same.eq n x).trans h)

def ref15_Same.rs : List RTy := [.data .bool]
def ref15_Same.ps : List PTy := [.data (.slc TBucket), .data (.slc TBucket)]
noncomputable def ref15_Same.e (n : Nat) : Ent := ⟨ref15_Same.ps, ref15_Same.rs, fun x => ref15_Same n x.1 x.2⟩
noncomputable def ref15_Same.C (n : Nat) : Ctx := { tab := tab, fts := fts, pts := pts, Γ := lookO [(141, ref13_Same.e n)], Γc := lookO [], Γs := lookO [], Γm := lookO [], Γo := lookO [], Γd := lookO [], ntmps := f96.ntmps, keep := Vi.look ([], []) [(4, ([0, 1, 5], []))], pins := [] }
theorem ref15_Same.ok (n : Nat) : CtxOk prog (ref15_Same.C n) := ⟨types, ftsOk_, ptsOk_, (fns_cons (ref13_Same.sound n) fns_nil), cls_nil, sqs_nil, ems_nil, mixed, ons_nil, des_nil⟩
noncomputable def ref15_Same.code : Code := bodyOf f96
theorem ref15_Same.l0.step (n : Nat) (m0 : Nat) (a_1 : (List Bucket)) (b_1 : (List Bucket)) (i : Int) : it (EmR.no _) (ref15_Same.C n) n (Code.go ref15_Same.code [1, 1, 0, 1, 0, 0]) (blockK 0 (seqK (EmR.no _) (ref15_Same.C n) n (Code.go ref15_Same.code [1, 1, 1]) (bodyK (ref15_Same.C n) f96 ref15_Same.rs))) (m0 + 1) ⟨[(0, .dat (.slc TBucket) a_1), (1, .dat (.slc TBucket) b_1), (5, .dat (.int .i64) i)], []⟩ = ref15_Same.s0 n (fun (i' : Int) => it (EmR.no _) (ref15_Same.C n) n (Code.go ref15_Same.code [1, 1, 0, 1, 0, 0]) (blockK 0 (seqK (EmR.no _) (ref15_Same.C n) n (Code.go ref15_Same.code [1, 1, 1]) (bodyK (ref15_Same.C n) f96 ref15_Same.rs))) m0 ⟨[(0, .dat (.slc TBucket) a_1), (1, .dat (.slc TBucket) b_1), (5, .dat (.int .i64) (i'))], []⟩) a_1 b_1 i := by kernel_rfl
theorem ref15_Same.l0.eq (n : Nat) (a_1 : (List Bucket)) (b_1 : (List Bucket)) : ∀ (m0 : Nat) (i : Int), it (EmR.no _) (ref15_Same.C n) n (Code.go ref15_Same.code [1, 1, 0, 1, 0, 0]) (blockK 0 (seqK (EmR.no _) (ref15_Same.C n) n (Code.go ref15_Same.code [1, 1, 1]) (bodyK (ref15_Same.C n) f96 ref15_Same.rs))) m0 ⟨[(0, .dat (.slc TBucket) a_1), (1, .dat (.slc TBucket) b_1), (5, .dat (.int .i64) i)], []⟩ = ref15_Same.l0 n a_1 b_1 m0 i
  | 0, _ => rfl
  | m0 + 1, i =>
    (ref15_Same.l0.step n m0 a_1 b_1 i).trans (congr1 (fun k0 => ref15_Same.s0 n k0 a_1 b_1 i) (funext fun i' => ref15_Same.l0.eq n a_1 b_1 m0 i'))
theorem ref15_Same.run0 (n : Nat) (x : pdens ref15_Same.ps) : Vi.run (ref15_Same.C n) n f96 ref15_Same.ps ref15_Same.rs x = ref15_Same.s n (fun (a_1' : (List Bucket)) (b_1' : (List Bucket)) (i' : Int) => it (EmR.no _) (ref15_Same.C n) n (Code.go ref15_Same.code [1, 1, 0, 1, 0, 0]) (blockK 0 (seqK (EmR.no _) (ref15_Same.C n) n (Code.go ref15_Same.code [1, 1, 1]) (bodyK (ref15_Same.C n) f96 ref15_Same.rs))) n ⟨[(0, .dat (.slc TBucket) (a_1')), (1, .dat (.slc TBucket) (b_1')), (5, .dat (.int .i64) (i'))], []⟩) x.1 x.2 := by kernel_rfl
theorem ref15_Same.eq (n : Nat) (x : pdens ref15_Same.ps) : Vi.run (ref15_Same.C n) n f96 ref15_Same.ps ref15_Same.rs x = ref15_Same n x.1 x.2 :=
  (ref15_Same.run0 n x).trans (congr1 (fun k0 => ref15_Same.s n k0 x.1 x.2) (funext fun a_1' => funext fun b_1' => funext fun i' => ref15_Same.l0.eq n a_1' b_1' n i'))
theorem ref15_Same.sound (n : Nat) : SoundE prog 96 (ref15_Same.e n) :=
  soundE_of_run (C := ref15_Same.C n) (n := n) (ref15_Same.ok n) func96 (by kernel_rfl) (by kernel_rfl) (fun x r h => (ref15_Same.eq n x).trans h)

def ref24_Same.rs : List RTy := [.data .bool]
def ref24_Same.ps : List PTy := [.data (.slc TGroup), .data (.slc TGroup)]
noncomputable def ref24_Same.e (n : Nat) : Ent := ⟨ref24_Same.ps, ref24_Same.rs, fun x => ref24_Same n x.1 x.2⟩
noncomputable def ref24_Same.C (n : Nat) : Ctx := { tab := tab, fts := fts, pts := pts, Γ := lookO [(96, ref15_Same.e n)], Γc := lookO [], Γs := lookO [], Γm := lookO [], Γo := lookO [], Γd := lookO [], ntmps := f45.ntmps, keep := Vi.look ([], []) [(4, ([0, 1, 5], []))], pins := [] }
theorem ref24_Same.ok (n : Nat) : CtxOk prog (ref24_Same.C n) := ⟨types, ftsOk_, ptsOk_, (fns_cons (ref15_Same.sound n) fns_nil), cls_nil, sqs_nil, ems_nil, mixed, ons_nil, des_nil⟩
noncomputable def ref24_Same.code : Code := bodyOf f45
theorem ref24_Same.l0.step (n : Nat) (m0 : Nat) (a_1 : (List Group)) (b_1 : (List Group)) (i : Int) : it (EmR.no _) (ref24_Same.C n) n (Code.go ref24_Same.code [1, 1, 0, 1, 0, 0]) (blockK 0 (seqK (EmR.no _) (ref24_Same.C n) n (Code.go ref24_Same.code [1, 1, 1]) (bodyK (ref24_Same.C n) f45 ref24_Same.rs))) (m0 + 1) ⟨[(0, .dat (.slc TGroup) a_1), (1, .dat (.slc TGroup) b_1), (5, .dat (.int .i64) i)], []⟩ = ref24_Same.s0 n (fun (i' : Int) => it (EmR.no _) (ref24_Same.C n) n (Code.go ref24_Same.code [1, 1, 0, 1, 0, 0]) (blockK 0 (seqK (EmR.no _) (ref24_Same.C n) n (Code.go ref24_Same.code [1, 1, 1]) (bodyK (ref24_Same.C n) f45 ref24_Same.rs))) m0 ⟨[(0, .dat (.slc TGroup) a_1), (1, .dat (.slc TGroup) b_1), (5, .dat (.int .i64) (i'))], []⟩) a_1 b_1 i := by kernel_rfl
theorem ref24_Same.l0.eq (n : Nat) (a_1 : (List Group)) (b_1 : (List Group)) : ∀ (m0 : Nat) (i : Int), it (EmR.no _) (ref24_Same.C n) n (Code.go ref24_Same.code [1, 1, 0, 1, 0, 0]) (blockK 0 (seqK (EmR.no _) (ref24_Same.C n) n (Code.go ref24_Same.code [1, 1, 1]) (bodyK (ref24_Same.C n) f45 ref24_Same.rs))) m0 ⟨[(0, .dat (.slc TGroup) a_1), (1, .dat (.slc TGroup) b_1), (5, .dat (.int .i64) i)], []⟩ = ref24_Same.l0 n a_1 b_1 m0 i
  | 0, _ => rfl
  | m0 + 1, i =>
    (ref24_Same.l0.step n m0 a_1 b_1 i).trans (congr1 (fun k0 => ref24_Same.s0 n k0 a_1 b_1 i) (funext fun i' => ref24_Same.l0.eq n a_1 b_1 m0 i'))
theorem ref24_Same.run0 (n : Nat) (x : pdens ref24_Same.ps) : Vi.run (ref24_Same.C n) n f45 ref24_Same.ps ref24_Same.rs x = ref24_Same.s n (fun (a_1' : (List Group)) (b_1' : (List Group)) (i' : Int) => it (EmR.no _) (ref24_Same.C n) n (Code.go ref24_Same.code [1, 1, 0, 1, 0, 0]) (blockK 0 (seqK (EmR.no _) (ref24_Same.C n) n (Code.go ref24_Same.code [1, 1, 1]) (bodyK (ref24_Same.C n) f45 ref24_Same.rs))) n ⟨[(0, .dat (.slc TGroup) (a_1')), (1, .dat (.slc TGroup) (b_1')), (5, .dat (.int .i64) (i'))], []⟩) x.1 x.2 := by kernel_rfl
theorem ref24_Same.eq (n : Nat) (x : pdens ref24_Same.ps) : Vi.run (ref24_Same.C n) n f45 ref24_Same.ps ref24_Same.rs x = ref24_Same n x.1 x.2 :=
  (ref24_Same.run0 n x).trans (congr1 (fun k0 => ref24_Same.s n k0 x.1 x.2) (funext fun a_1' => funext fun b_1' => funext fun i' => ref24_Same.l0.eq n a_1' b_1' n i'))
theorem ref24_Same.sound (n : Nat) : SoundE prog 45 (ref24_Same.e n) :=
  soundE_of_run (C := ref24_Same.C n) (n := n) (ref24_Same.ok n) func45 (by kernel_rfl) (by kernel_rfl) (fun x r h => (ref24_Same.eq n x).trans h)

def ref24_Right.rs : List RTy := [.data .bool]
def ref24_Right.ps : List PTy := [.data (.slc TGroup)]
noncomputable def ref24_Right.e (n : Nat) : Ent := ⟨ref24_Right.ps, ref24_Right.rs, fun x => ref24_Right n x⟩
noncomputable def ref24_Right.C (n : Nat) : Ctx := { tab := tab, fts := fts, pts := pts, Γ := lookO [(60, ref24_Loop.e n), (64, ref24_Check.e n), (94, ref24_place.e n), (95, ref24_there.e n)], Γc := lookO [], Γs := lookO [], Γm := lookO [], Γo := lookO [], Γd := lookO [], ntmps := f47.ntmps, keep := Vi.look ([], []) [(2, ([0, 3], []))], pins := [] }
theorem ref24_Right.ok (n : Nat) : CtxOk prog (ref24_Right.C n) := ⟨types, ftsOk_, ptsOk_, (fns_cons (ref24_Loop.sound n) (fns_cons (ref24_Check.sound n) (fns_cons (ref24_place.sound n) (fns_cons (ref24_there.sound n) fns_nil)))), cls_nil, sqs_nil, ems_nil, mixed, ons_nil, des_nil⟩
noncomputable def ref24_Right.code : Code := bodyOf f47
theorem ref24_Right.l0.step (n : Nat) (m0 : Nat) (l_1 : (List Group)) (i : Int) : it (EmR.no _) (ref24_Right.C n) n (Code.go ref24_Right.code [1, 0, 1, 0, 0]) (blockK 0 (seqK (EmR.no _) (ref24_Right.C n) n (Code.go ref24_Right.code [1, 1]) (bodyK (ref24_Right.C n) f47 ref24_Right.rs))) (m0 + 1) ⟨[(0, .dat (.slc TGroup) l_1), (3, .dat (.int .i64) i)], []⟩ = ref24_Right.s0 n (fun (i' : Int) => it (EmR.no _) (ref24_Right.C n) n (Code.go ref24_Right.code [1, 0, 1, 0, 0]) (blockK 0 (seqK (EmR.no _) (ref24_Right.C n) n (Code.go ref24_Right.code [1, 1]) (bodyK (ref24_Right.C n) f47 ref24_Right.rs))) m0 ⟨[(0, .dat (.slc TGroup) l_1), (3, .dat (.int .i64) (i'))], []⟩) l_1 i := by kernel_rfl
theorem ref24_Right.l0.eq (n : Nat) (l_1 : (List Group)) : ∀ (m0 : Nat) (i : Int), it (EmR.no _) (ref24_Right.C n) n (Code.go ref24_Right.code [1, 0, 1, 0, 0]) (blockK 0 (seqK (EmR.no _) (ref24_Right.C n) n (Code.go ref24_Right.code [1, 1]) (bodyK (ref24_Right.C n) f47 ref24_Right.rs))) m0 ⟨[(0, .dat (.slc TGroup) l_1), (3, .dat (.int .i64) i)], []⟩ = ref24_Right.l0 n l_1 m0 i
  | 0, _ => rfl
  | m0 + 1, i =>
    (ref24_Right.l0.step n m0 l_1 i).trans (congr1 (fun k0 => ref24_Right.s0 n k0 l_1 i) (funext fun i' => ref24_Right.l0.eq n l_1 m0 i'))
theorem ref24_Right.run0 (n : Nat) (x : pdens ref24_Right.ps) : Vi.run (ref24_Right.C n) n f47 ref24_Right.ps ref24_Right.rs x = ref24_Right.s n (fun (l_1' : (List Group)) (i' : Int) => it (EmR.no _) (ref24_Right.C n) n (Code.go ref24_Right.code [1, 0, 1, 0, 0]) (blockK 0 (seqK (EmR.no _) (ref24_Right.C n) n (Code.go ref24_Right.code [1, 1]) (bodyK (ref24_Right.C n) f47 ref24_Right.rs))) n ⟨[(0, .dat (.slc TGroup) (l_1')), (3, .dat (.int .i64) (i'))], []⟩) x := by kernel_rfl
theorem ref24_Right.eq (n : Nat) (x : pdens ref24_Right.ps) : Vi.run (ref24_Right.C n) n f47 ref24_Right.ps ref24_Right.rs x = ref24_Right n x :=
  (ref24_Right.run0 n x).trans (congr1 (fun k0 => ref24_Right.s n k0 x) (funext fun l_1' => funext fun i' => ref24_Right.l0.eq n l_1' n i'))
theorem ref24_Right.sound (n : Nat) : SoundE prog 47 (ref24_Right.e n) :=
  soundE_of_run (C := ref24_Right.C n) (n := n) (ref24_Right.ok n) func47 (by kernel_rfl) (by kernel_rfl) (fun x r h => (ref24_Right.eq n x).trans h)

def law24_GroupDoes.rs : List RTy := [.data .bool]
def law24_GroupDoes.ps : List PTy := [.data (.slc TGroup), .data (.slc TGroupMod)]
noncomputable def law24_GroupDoes.e (n : Nat) : Ent := ⟨law24_GroupDoes.ps, law24_GroupDoes.rs, fun x => law24_GroupDoes n x.1 x.2⟩
noncomputable def law24_GroupDoes.C (n : Nat) : Ctx := { tab := tab, fts := fts, pts := pts, Γ := lookO [(39, plain_Groups.e n), (40, slices_ContainsFunc_GroupMod.e n), (42, law24_awake.e n), (43, group_Do.e n), (44, ref24_Do.e n), (45, ref24_Same.e n), (46, group_Right.e n), (47, ref24_Right.e n)], Γc := lookO [(41, law24_long_c.e n)], Γs := lookO [], Γm := lookO [], Γo := lookO [], Γd := lookO [], ntmps := f10.ntmps, keep := Vi.look ([], []) [(4, ([0, 24, 25, 26], []))], pins := [] }
theorem law24_GroupDoes.ok (n : Nat) : CtxOk prog (law24_GroupDoes.C n) := ⟨types, ftsOk_, ptsOk_, (fns_cons (plain_Groups.sound n) (fns_cons (slices_ContainsFunc_GroupMod.sound n) (fns_cons (law24_awake.sound n) (fns_cons (group_Do.sound n) (fns_cons (ref24_Do.sound n) (fns_cons (ref24_Same.sound n) (fns_cons (group_Right.sound n) (fns_cons (ref24_Right.sound n) fns_nil)))))))), (cls_cons (law24_long_c.sound n) cls_nil), sqs_nil, ems_nil, mixed, ons_nil, des_nil⟩
noncomputable def law24_GroupDoes.code : Code := bodyOf f10
theorem law24_GroupDoes.l0.step (n : Nat) (m0 : Nat) (l_1 : (List Group)) (v24 : (List GroupMod)) (v25 : Int) (v26 : Int) : it (EmR.no _) (law24_GroupDoes.C n) n (Code.go law24_GroupDoes.code [1, 1, 0, 1, 0, 0]) (blockK 0 (seqK (EmR.no _) (law24_GroupDoes.C n) n (Code.go law24_GroupDoes.code [1, 1, 1]) (bodyK (law24_GroupDoes.C n) f10 law24_GroupDoes.rs))) (m0 + 1) ⟨[(0, .dat (.slc TGroup) l_1), (24, .dat (.slc TGroupMod) v24), (25, .dat (.int .i64) v25), (26, .dat (.int .i64) v26)], []⟩ = law24_GroupDoes.s0 n (fun (l_1' : (List Group)) (v26' : Int) => it (EmR.no _) (law24_GroupDoes.C n) n (Code.go law24_GroupDoes.code [1, 1, 0, 1, 0, 0]) (blockK 0 (seqK (EmR.no _) (law24_GroupDoes.C n) n (Code.go law24_GroupDoes.code [1, 1, 1]) (bodyK (law24_GroupDoes.C n) f10 law24_GroupDoes.rs))) m0 ⟨[(0, .dat (.slc TGroup) (l_1')), (24, .dat (.slc TGroupMod) v24), (25, .dat (.int .i64) v25), (26, .dat (.int .i64) (v26'))], []⟩) l_1 v24 v25 v26 := by kernel_rfl
theorem law24_GroupDoes.l0.eq (n : Nat) (v24 : (List GroupMod)) (v25 : Int) : ∀ (m0 : Nat) (l_1 : (List Group)) (v26 : Int), it (EmR.no _) (law24_GroupDoes.C n) n (Code.go law24_GroupDoes.code [1, 1, 0, 1, 0, 0]) (blockK 0 (seqK (EmR.no _) (law24_GroupDoes.C n) n (Code.go law24_GroupDoes.code [1, 1, 1]) (bodyK (law24_GroupDoes.C n) f10 law24_GroupDoes.rs))) m0 ⟨[(0, .dat (.slc TGroup) l_1), (24, .dat (.slc TGroupMod) v24), (25, .dat (.int .i64) v25), (26, .dat (.int .i64) v26)], []⟩ = law24_GroupDoes.l0 n v24 v25 m0 l_1 v26
  | 0, _, _ => rfl
  | m0 + 1, l_1, v26 =>
    (law24_GroupDoes.l0.step n m0 l_1 v24 v25 v26).trans (congr1 (fun k0 => law24_GroupDoes.s0 n k0 l_1 v24 v25 v26) (funext fun l_1' => funext fun v26' => law24_GroupDoes.l0.eq n v24 v25 m0 l_1' v26'))
theorem law24_GroupDoes.run0 (n : Nat) (x : pdens law24_GroupDoes.ps) : Vi.run (law24_GroupDoes.C n) n f10 law24_GroupDoes.ps law24_GroupDoes.rs x = law24_GroupDoes.s n (fun (l_1' : (List Group)) (v24' : (List GroupMod)) (v25' : Int) (v26' : Int) => it (EmR.no _) (law24_GroupDoes.C n) n (Code.go law24_GroupDoes.code [1, 1, 0, 1, 0, 0]) (blockK 0 (seqK (EmR.no _) (law24_GroupDoes.C n) n (Code.go law24_GroupDoes.code [1, 1, 1]) (bodyK (law24_GroupDoes.C n) f10 law24_GroupDoes.rs))) n ⟨[(0, .dat (.slc TGroup) (l_1')), (24, .dat (.slc TGroupMod) (v24')), (25, .dat (.int .i64) (v25')), (26, .dat (.int .i64) (v26'))], []⟩) x.1 x.2 := by kernel_rfl
theorem law24_GroupDoes.eq (n : Nat) (x : pdens law24_GroupDoes.ps) : Vi.run (law24_GroupDoes.C n) n f10 law24_GroupDoes.ps law24_GroupDoes.rs x = law24_GroupDoes n x.1 x.2 :=
  (law24_GroupDoes.run0 n x).trans (congr1 (fun k0 => law24_GroupDoes.s n k0 x.1 x.2) (funext fun l_1' => funext fun v24' => funext fun v25' => funext fun v26' => law24_GroupDoes.l0.eq n v24' v25' n l_1' v26'))
theorem law24_GroupDoes.sound (n : Nat) : SoundE prog 10 (law24_GroupDoes.e n) :=
  soundE_of_run (C := law24_GroupDoes.C n) (n := n) (law24_GroupDoes.ok n) func10 (by kernel_rfl) (by kernel_rfl) (fun x r h => (law24_GroupDoes.eq n x).trans h)
def law24_GroupDoes.g (n : Nat) (x : pdens (law24_GroupDoes.τs.map PTy.data)) : Option Bool := law24_GroupDoes n x.1 x.2
theorem law24_GroupDoes.soundN (n : Nat) : SoundE prog 10 ⟨law24_GroupDoes.τs.map PTy.data, [.data .bool], law24_GroupDoes.g n⟩ := law24_GroupDoes.sound n

def law24_GroupStays.rs : List RTy := [.data .bool]
def law24_GroupStays.ps : List PTy := [.data (.slc TGroupMod)]
noncomputable def law24_GroupStays.e (n : Nat) : Ent := ⟨law24_GroupStays.ps, law24_GroupStays.rs, fun x => law24_GroupStays n x⟩
noncomputable def law24_GroupStays.C (n : Nat) : Ctx := { tab := tab, fts := fts, pts := pts, Γ := lookO [(40, slices_ContainsFunc_GroupMod.e n), (42, law24_awake.e n), (43, group_Do.e n), (46, group_Right.e n)], Γc := lookO [(41, law24_long_c.e n)], Γs := lookO [], Γm := lookO [], Γo := lookO [], Γd := lookO [], ntmps := f11.ntmps, keep := Vi.look ([], []) [(5, ([3, 16, 17, 18], []))], pins := [], plain := true }
theorem law24_GroupStays.ok (n : Nat) : CtxOk prog (law24_GroupStays.C n) := ⟨types, ftsOk_, ptsOk_, (fns_cons (slices_ContainsFunc_GroupMod.sound n) (fns_cons (law24_awake.sound n) (fns_cons (group_Do.sound n) (fns_cons (group_Right.sound n) fns_nil)))), (cls_cons (law24_long_c.sound n) cls_nil), sqs_nil, ems_nil, mixed, ons_nil, des_nil⟩
noncomputable def law24_GroupStays.code : Code := bodyOf f11
theorem law24_GroupStays.l0.step (n : Nat) (m0 : Nat) (l : (List Group)) (v16 : (List GroupMod)) (v17 : Int) (v18 : Int) : it (EmR.no _) (law24_GroupStays.C n) n (Code.go law24_GroupStays.code [1, 1, 1, 0, 1, 0, 0]) (blockK 0 (seqK (EmR.no _) (law24_GroupStays.C n) n (Code.go law24_GroupStays.code [1, 1, 1, 1]) (bodyK (law24_GroupStays.C n) f11 law24_GroupStays.rs))) (m0 + 1) ⟨[(3, .dat (.slc TGroup) l), (16, .dat (.slc TGroupMod) v16), (17, .dat (.int .i64) v17), (18, .dat (.int .i64) v18)], []⟩ = law24_GroupStays.s0 n (fun (l' : (List Group)) (v18' : Int) => it (EmR.no _) (law24_GroupStays.C n) n (Code.go law24_GroupStays.code [1, 1, 1, 0, 1, 0, 0]) (blockK 0 (seqK (EmR.no _) (law24_GroupStays.C n) n (Code.go law24_GroupStays.code [1, 1, 1, 1]) (bodyK (law24_GroupStays.C n) f11 law24_GroupStays.rs))) m0 ⟨[(3, .dat (.slc TGroup) (l')), (16, .dat (.slc TGroupMod) v16), (17, .dat (.int .i64) v17), (18, .dat (.int .i64) (v18'))], []⟩) l v16 v17 v18 := by kernel_rfl
theorem law24_GroupStays.l0.eq (n : Nat) (v16 : (List GroupMod)) (v17 : Int) : ∀ (m0 : Nat) (l : (List Group)) (v18 : Int), it (EmR.no _) (law24_GroupStays.C n) n (Code.go law24_GroupStays.code [1, 1, 1, 0, 1, 0, 0]) (blockK 0 (seqK (EmR.no _) (law24_GroupStays.C n) n (Code.go law24_GroupStays.code [1, 1, 1, 1]) (bodyK (law24_GroupStays.C n) f11 law24_GroupStays.rs))) m0 ⟨[(3, .dat (.slc TGroup) l), (16, .dat (.slc TGroupMod) v16), (17, .dat (.int .i64) v17), (18, .dat (.int .i64) v18)], []⟩ = law24_GroupStays.l0 n v16 v17 m0 l v18
  | 0, _, _ => rfl
  | m0 + 1, l, v18 =>
    (law24_GroupStays.l0.step n m0 l v16 v17 v18).trans (congr1 (fun k0 => law24_GroupStays.s0 n k0 l v16 v17 v18) (funext fun l' => funext fun v18' => law24_GroupStays.l0.eq n v16 v17 m0 l' v18'))
theorem law24_GroupStays.run0 (n : Nat) (x : pdens law24_GroupStays.ps) : Vi.run (law24_GroupStays.C n) n f11 law24_GroupStays.ps law24_GroupStays.rs x = law24_GroupStays.s n (fun (l' : (List Group)) (v16' : (List GroupMod)) (v17' : Int) (v18' : Int) => it (EmR.no _) (law24_GroupStays.C n) n (Code.go law24_GroupStays.code [1, 1, 1, 0, 1, 0, 0]) (blockK 0 (seqK (EmR.no _) (law24_GroupStays.C n) n (Code.go law24_GroupStays.code [1, 1, 1, 1]) (bodyK (law24_GroupStays.C n) f11 law24_GroupStays.rs))) n ⟨[(3, .dat (.slc TGroup) (l')), (16, .dat (.slc TGroupMod) (v16')), (17, .dat (.int .i64) (v17')), (18, .dat (.int .i64) (v18'))], []⟩) x := by kernel_rfl
theorem law24_GroupStays.eq (n : Nat) (x : pdens law24_GroupStays.ps) : Vi.run (law24_GroupStays.C n) n f11 law24_GroupStays.ps law24_GroupStays.rs x = law24_GroupStays n x :=
  (law24_GroupStays.run0 n x).trans (congr1 (fun k0 => law24_GroupStays.s n k0 x) (funext fun l' => funext fun v16' => funext fun v17' => funext fun v18' => law24_GroupStays.l0.eq n v16' v17' n l' v18'))
theorem law24_GroupStays.sound (n : Nat) : SoundE prog 11 (law24_GroupStays.e n) :=
  soundE_of_run (C := law24_GroupStays.C n) (n := n) (law24_GroupStays.ok n) func11 (by kernel_rfl) (by kernel_rfl) (fun x r h => (law24_GroupStays.eq n x).trans h)
def law24_GroupStays.g (n : Nat) (x : pdens (law24_GroupStays.τs.map PTy.data)) : Option Bool := law24_GroupStays n x
theorem law24_GroupStays.soundN (n : Nat) : SoundE prog 11 ⟨law24_GroupStays.τs.map PTy.data, [.data .bool], law24_GroupStays.g n⟩ := law24_GroupStays.sound n

def law24_GroupEnds.rs : List RTy := [.data .bool]
def law24_GroupEnds.ps : List PTy := [.data (.slc TGroup), .data (.int .u8), .data (.slc (.int .u8))]
noncomputable def law24_GroupEnds.e (n : Nat) : Ent := ⟨law24_GroupEnds.ps, law24_GroupEnds.rs, fun x => law24_GroupEnds n x.1 x.2.1 x.2.2⟩
noncomputable def law24_GroupEnds.C (n : Nat) : Ctx := { tab := tab, fts := fts, pts := pts, Γ := lookO [(39, plain_Groups.e n), (42, law24_awake.e n), (46, group_Right.e n), (48, group_Names.e n), (49, group_Find.e n)], Γc := lookO [], Γs := lookO [], Γm := lookO [], Γo := lookO [], Γd := lookO [], ntmps := f12.ntmps, keep := Vi.look ([], []) [(5, ([0, 7, 35, 36, 37], [7]))], pins := [] }
theorem law24_GroupEnds.ok (n : Nat) : CtxOk prog (law24_GroupEnds.C n) := ⟨types, ftsOk_, ptsOk_, (fns_cons (plain_Groups.sound n) (fns_cons (law24_awake.sound n) (fns_cons (group_Right.sound n) (fns_cons (group_Names.sound n) (fns_cons (group_Find.sound n) fns_nil))))), cls_nil, sqs_nil, ems_nil, mixed, ons_nil, des_nil⟩
noncomputable def law24_GroupEnds.code : Code := bodyOf f12
theorem law24_GroupEnds.l0.step (n : Nat) (m0 : Nat) (l_1 : (List Group)) (v35 : (List Int)) (v36 : Int) (v37 : Int) (g : Group) : it (EmR.no _) (law24_GroupEnds.C n) n (Code.go law24_GroupEnds.code [1, 1, 1, 0, 1, 0, 0]) (blockK 0 (seqK (EmR.no _) (law24_GroupEnds.C n) n (Code.go law24_GroupEnds.code [1, 1, 1, 1]) (bodyK (law24_GroupEnds.C n) f12 law24_GroupEnds.rs))) (m0 + 1) ⟨[(0, .dat (.slc TGroup) l_1), (7, .ptr 7 0 TGroup []), (35, .dat (.slc (.int .u8)) v35), (36, .dat (.int .i64) v36), (37, .dat (.int .i64) v37)], [(7, .box 0 false (.dat TGroup g))]⟩ = law24_GroupEnds.s0 n (fun (v37' : Int) (g' : Group) => it (EmR.no _) (law24_GroupEnds.C n) n (Code.go law24_GroupEnds.code [1, 1, 1, 0, 1, 0, 0]) (blockK 0 (seqK (EmR.no _) (law24_GroupEnds.C n) n (Code.go law24_GroupEnds.code [1, 1, 1, 1]) (bodyK (law24_GroupEnds.C n) f12 law24_GroupEnds.rs))) m0 ⟨[(0, .dat (.slc TGroup) l_1), (7, .ptr 7 0 TGroup []), (35, .dat (.slc (.int .u8)) v35), (36, .dat (.int .i64) v36), (37, .dat (.int .i64) (v37'))], [(7, .box 0 false (.dat TGroup (g')))]⟩) l_1 v35 v36 v37 g := by kernel_rfl
theorem law24_GroupEnds.l0.eq (n : Nat) (l_1 : (List Group)) (v35 : (List Int)) (v36 : Int) : ∀ (m0 : Nat) (v37 : Int) (g : Group), it (EmR.no _) (law24_GroupEnds.C n) n (Code.go law24_GroupEnds.code [1, 1, 1, 0, 1, 0, 0]) (blockK 0 (seqK (EmR.no _) (law24_GroupEnds.C n) n (Code.go law24_GroupEnds.code [1, 1, 1, 1]) (bodyK (law24_GroupEnds.C n) f12 law24_GroupEnds.rs))) m0 ⟨[(0, .dat (.slc TGroup) l_1), (7, .ptr 7 0 TGroup []), (35, .dat (.slc (.int .u8)) v35), (36, .dat (.int .i64) v36), (37, .dat (.int .i64) v37)], [(7, .box 0 false (.dat TGroup g))]⟩ = law24_GroupEnds.l0 n l_1 v35 v36 m0 v37 g
  | 0, _, _ => rfl
  | m0 + 1, v37, g =>
    (law24_GroupEnds.l0.step n m0 l_1 v35 v36 v37 g).trans (congr1 (fun k0 => law24_GroupEnds.s0 n k0 l_1 v35 v36 v37 g) (funext fun v37' => funext fun g' => law24_GroupEnds.l0.eq n l_1 v35 v36 m0 v37' g'))
theorem law24_GroupEnds.run0 (n : Nat) (x : pdens law24_GroupEnds.ps) : Vi.run (law24_GroupEnds.C n) n f12 law24_GroupEnds.ps law24_GroupEnds.rs x = law24_GroupEnds.s n (fun (l_1' : (List Group)) (v35' : (List Int)) (v36' : Int) (v37' : Int) (g' : Group) => it (EmR.no _) (law24_GroupEnds.C n) n (Code.go law24_GroupEnds.code [1, 1, 1, 0, 1, 0, 0]) (blockK 0 (seqK (EmR.no _) (law24_GroupEnds.C n) n (Code.go law24_GroupEnds.code [1, 1, 1, 1]) (bodyK (law24_GroupEnds.C n) f12 law24_GroupEnds.rs))) n ⟨[(0, .dat (.slc TGroup) (l_1')), (7, .ptr 7 0 TGroup []), (35, .dat (.slc (.int .u8)) (v35')), (36, .dat (.int .i64) (v36')), (37, .dat (.int .i64) (v37'))], [(7, .box 0 false (.dat TGroup (g')))]⟩) x.1 x.2.1 x.2.2 := by kernel_rfl
theorem law24_GroupEnds.eq (n : Nat) (x : pdens law24_GroupEnds.ps) : Vi.run (law24_GroupEnds.C n) n f12 law24_GroupEnds.ps law24_GroupEnds.rs x = law24_GroupEnds n x.1 x.2.1 x.2.2 :=
  (law24_GroupEnds.run0 n x).trans (congr1 (fun k0 => law24_GroupEnds.s n k0 x.1 x.2.1 x.2.2) (funext fun l_1' => funext fun v35' => funext fun v36' => funext fun v37' => funext fun g' => law24_GroupEnds.l0.eq n l_1' v35' v36' n v37' g'))
theorem law24_GroupEnds.sound (n : Nat) : SoundE prog 12 (law24_GroupEnds.e n) :=
  soundE_of_run (C := law24_GroupEnds.C n) (n := n) (law24_GroupEnds.ok n) func12 (by kernel_rfl) (by kernel_rfl) (fun x r h => (law24_GroupEnds.eq n x).trans h)
def law24_GroupEnds.g (n : Nat) (x : pdens (law24_GroupEnds.τs.map PTy.data)) : Option Bool := law24_GroupEnds n x.1 x.2.1 x.2.2
theorem law24_GroupEnds.soundN (n : Nat) : SoundE prog 12 ⟨law24_GroupEnds.τs.map PTy.data, [.data .bool], law24_GroupEnds.g n⟩ := law24_GroupEnds.sound n

def law24_GroupGone_1.rs : List Ty := [.bool]
def law24_GroupGone_1.ps : List Ty := [TGroup]
def law24_GroupGone_1.caps : List PTy := [.cptr (.int .i64)]
noncomputable def law24_GroupGone_1.e (n : Nat) : Cl := ⟨law24_GroupGone_1.ps, law24_GroupGone_1.caps, law24_GroupGone_1.rs, fun x c => law24_GroupGone_1 n x c⟩
noncomputable def law24_GroupGone_1.C (n : Nat) : Ctx := { tab := tab, fts := fts, pts := pts, Γ := lookO [(48, group_Names.e n), (52, slices_Contains_int.e n)], Γc := lookO [], Γs := lookO [], Γm := lookO [], Γo := lookO [], Γd := lookO [], ntmps := f51.ntmps, keep := Vi.look ([], []) [], pins := [] }
theorem law24_GroupGone_1.ok (n : Nat) : CtxOk prog (law24_GroupGone_1.C n) := ⟨types, ftsOk_, ptsOk_, (fns_cons (group_Names.sound n) (fns_cons (slices_Contains_int.sound n) fns_nil)), cls_nil, sqs_nil, ems_nil, mixed, ons_nil, des_nil⟩
theorem law24_GroupGone_1.eq (n : Nat) (x : dens law24_GroupGone_1.ps) (c : pdens law24_GroupGone_1.caps) : Vi.runC (law24_GroupGone_1.C n) n f51 law24_GroupGone_1.ps law24_GroupGone_1.caps law24_GroupGone_1.rs x c = law24_GroupGone_1 n x c := by kernel_rfl
theorem law24_GroupGone_1.sound (n : Nat) : SoundC prog 51 (law24_GroupGone_1.e n) :=
  soundC_of_run (C := law24_GroupGone_1.C n) (n := n) (law24_GroupGone_1.ok n) func51 (by kernel_rfl) (by kernel_rfl) (fun x c r h => (law24_GroupGone_1.eq n x c).trans h)

def law24_GroupGone_2.rs : List Ty := [.bool]
def law24_GroupGone_2.ps : List Ty := [TGroup]
def law24_GroupGone_2.caps : List PTy := [.cptr (.int .i64)]
noncomputable def law24_GroupGone_2.e (n : Nat) : Cl := ⟨law24_GroupGone_2.ps, law24_GroupGone_2.caps, law24_GroupGone_2.rs, fun x c => some (law24_GroupGone_2 x c)⟩
noncomputable def law24_GroupGone_2.C (n : Nat) : Ctx := { tab := tab, fts := fts, pts := pts, Γ := lookO [], Γc := lookO [], Γs := lookO [], Γm := lookO [], Γo := lookO [], Γd := lookO [], ntmps := f55.ntmps, keep := Vi.look ([], []) [], pins := [] }
theorem law24_GroupGone_2.ok (n : Nat) : CtxOk prog (law24_GroupGone_2.C n) := ⟨types, ftsOk_, ptsOk_, fns_nil, cls_nil, sqs_nil, ems_nil, mixed, ons_nil, des_nil⟩
theorem law24_GroupGone_2.run0 (n : Nat) (x : dens law24_GroupGone_2.ps) (c : pdens law24_GroupGone_2.caps) : Vi.runC (law24_GroupGone_2.C n) n f55 law24_GroupGone_2.ps law24_GroupGone_2.caps law24_GroupGone_2.rs x c = law24_GroupGone_2.o x c := by kernel_rfl
theorem law24_GroupGone_2.eq (n : Nat) (x : dens law24_GroupGone_2.ps) (c : pdens law24_GroupGone_2.caps) : Vi.runC (law24_GroupGone_2.C n) n f55 law24_GroupGone_2.ps law24_GroupGone_2.caps law24_GroupGone_2.rs x c = some (law24_GroupGone_2 x c) := (law24_GroupGone_2.run0 n x c).trans (law24_GroupGone_2.o_eq _ _)
theorem law24_GroupGone_2.sound (n : Nat) : SoundC prog 55 (law24_GroupGone_2.e n) :=
  soundC_of_run (C := law24_GroupGone_2.C n) (n := n) (law24_GroupGone_2.ok n) func55 (by kernel_rfl) (by kernel_rfl) (fun x c r h => (law24_GroupGone_2.eq n x c).trans h)

def law24_GroupGone.rs : List RTy := [.data .bool]
def law24_GroupGone.ps : List PTy := [.data (.slc TGroup), .data (.int .i64)]
noncomputable def law24_GroupGone.e (n : Nat) : Ent := ⟨law24_GroupGone.ps, law24_GroupGone.rs, fun x => law24_GroupGone n x.1 x.2⟩
noncomputable def law24_GroupGone.C (n : Nat) : Ctx := { tab := tab, fts := fts, pts := pts, Γ := lookO [(39, plain_Groups.e n), (42, law24_awake.e n), (43, group_Do.e n), (46, group_Right.e n), (49, group_Find.e n), (50, slices_ContainsFunc_Group.e n), (54, slices_Clone_Group.e n), (56, group_Same.e n)], Γc := lookO [(51, law24_GroupGone_1.e n), (55, law24_GroupGone_2.e n)], Γs := lookO [], Γm := lookO [], Γo := lookO [], Γd := lookO [(53, slices_DeleteFunc_Group.e n)], ntmps := f13.ntmps, keep := Vi.look ([], []) [], pins := [], cold := [3] }
theorem law24_GroupGone.ok (n : Nat) : CtxOk prog (law24_GroupGone.C n) := ⟨types, ftsOk_, ptsOk_, (fns_cons (plain_Groups.sound n) (fns_cons (law24_awake.sound n) (fns_cons (group_Do.sound n) (fns_cons (group_Right.sound n) (fns_cons (group_Find.sound n) (fns_cons (slices_ContainsFunc_Group.sound n) (fns_cons (slices_Clone_Group.sound n) (fns_cons (group_Same.sound n) fns_nil)))))))), (cls_cons (law24_GroupGone_1.sound n) (cls_cons (law24_GroupGone_2.sound n) cls_nil)), sqs_nil, ems_nil, mixed, ons_nil, (des_cons (slices_DeleteFunc_Group.sound n) des_nil)⟩
theorem law24_GroupGone.eq (n : Nat) (x : pdens law24_GroupGone.ps) : Vi.run (law24_GroupGone.C n) n f13 law24_GroupGone.ps law24_GroupGone.rs x = law24_GroupGone n x.1 x.2 := by kernel_rfl
theorem law24_GroupGone.sound (n : Nat) : SoundE prog 13 (law24_GroupGone.e n) :=
  soundE_of_run (C := law24_GroupGone.C n) (n := n) (law24_GroupGone.ok n) func13 (by kernel_rfl) (by kernel_rfl) (fun x r h => (law24_GroupGone.eq n x).trans h)
def law24_GroupGone.g (n : Nat) (x : pdens (law24_GroupGone.τs.map PTy.data)) : Option Bool := law24_GroupGone n x.1 x.2
theorem law24_GroupGone.soundN (n : Nat) : SoundE prog 13 ⟨law24_GroupGone.τs.map PTy.data, [.data .bool], law24_GroupGone.g n⟩ := law24_GroupGone.sound n

def ref24_Find.rs : List RTy := [.data TGroup, .data .bool]
def ref24_Find.ps : List PTy := [.data (.slc TGroup), .data (.int .i64)]
noncomputable def ref24_Find.e (n : Nat) : Ent := ⟨ref24_Find.ps, ref24_Find.rs, fun x => ref24_Find n x.1 x.2⟩
noncomputable def ref24_Find.C (n : Nat) : Ctx := { tab := tab, fts := fts, pts := pts, Γ := lookO [(94, ref24_place.e n)], Γc := lookO [], Γs := lookO [], Γm := lookO [], Γo := lookO [], Γd := lookO [], ntmps := f57.ntmps, keep := Vi.look ([], []) [], pins := [] }
theorem ref24_Find.ok (n : Nat) : CtxOk prog (ref24_Find.C n) := ⟨types, ftsOk_, ptsOk_, (fns_cons (ref24_place.sound n) fns_nil), cls_nil, sqs_nil, ems_nil, mixed, ons_nil, des_nil⟩
theorem ref24_Find.eq (n : Nat) (x : pdens ref24_Find.ps) : Vi.run (ref24_Find.C n) n f57 ref24_Find.ps ref24_Find.rs x = ref24_Find n x.1 x.2 := by kernel_rfl
theorem ref24_Find.sound (n : Nat) : SoundE prog 57 (ref24_Find.e n) :=
  soundE_of_run (C := ref24_Find.C n) (n := n) (ref24_Find.ok n) func57 (by kernel_rfl) (by kernel_rfl) (fun x r h => (ref24_Find.eq n x).trans h)

def law24_one.rs : List RTy := [.fresh TGroup]
def law24_one.ps : List PTy := [.data TGroup]
noncomputable def law24_one.e (n : Nat) : Ent := ⟨law24_one.ps, law24_one.rs, fun x => some (law24_one x)⟩
noncomputable def law24_one.C (n : Nat) : Ctx := { tab := tab, fts := fts, pts := pts, Γ := lookO [], Γc := lookO [], Γs := lookO [], Γm := lookO [], Γo := lookO [], Γd := lookO [], ntmps := f58.ntmps, keep := Vi.look ([], []) [], pins := [], cold := [1] }
theorem law24_one.ok (n : Nat) : CtxOk prog (law24_one.C n) := ⟨types, ftsOk_, ptsOk_, fns_nil, cls_nil, sqs_nil, ems_nil, mixed, ons_nil, des_nil⟩
theorem law24_one.eq (n : Nat) (x : pdens law24_one.ps) : Vi.run (law24_one.C n) n f58 law24_one.ps law24_one.rs x = some (law24_one x) := by kernel_rfl
theorem law24_one.sound (n : Nat) : SoundE prog 58 (law24_one.e n) :=
  soundE_of_run (C := law24_one.C n) (n := n) (law24_one.ok n) func58 (by kernel_rfl) (by kernel_rfl) (fun x r h => (law24_one.eq n x).trans h)

def slices_Equal_int.rs : List RTy := [.data .bool]
def slices_Equal_int.ps : List PTy := [.data (.slc (.int .i64)), .data (.slc (.int .i64))]
noncomputable def slices_Equal_int.e (n : Nat) : Ent := ⟨slices_Equal_int.ps, slices_Equal_int.rs, fun x => slices_Equal_int n x.1 x.2⟩
noncomputable def slices_Equal_int.C (n : Nat) : Ctx := { tab := tab, fts := fts, pts := pts, Γ := lookO [], Γc := lookO [], Γs := lookO [], Γm := lookO [], Γo := lookO [], Γd := lookO [], ntmps := f61.ntmps, keep := Vi.look ([], []) [(4, ([0, 1, 12, 13], []))], pins := [] }
theorem slices_Equal_int.ok (n : Nat) : CtxOk prog (slices_Equal_int.C n) := ⟨types, ftsOk_, ptsOk_, fns_nil, cls_nil, sqs_nil, ems_nil, mixed, ons_nil, des_nil⟩
noncomputable def slices_Equal_int.code : Code := bodyOf f61
theorem slices_Equal_int.l0.step (n : Nat) (m0 : Nat) (s1_1 : (List Int)) (s2_1 : (List Int)) (v12 : Int) (v13 : Int) : it (EmR.no _) (slices_Equal_int.C n) n (Code.go slices_Equal_int.code [1, 1, 0, 1, 0, 0]) (blockK 0 (seqK (EmR.no _) (slices_Equal_int.C n) n (Code.go slices_Equal_int.code [1, 1, 1]) (bodyK (slices_Equal_int.C n) f61 slices_Equal_int.rs))) (m0 + 1) ⟨[(0, .dat (.slc (.int .i64)) s1_1), (1, .dat (.slc (.int .i64)) s2_1), (12, .dat (.int .i64) v12), (13, .dat (.int .i64) v13)], []⟩ = slices_Equal_int.s0 n (fun (v13' : Int) => it (EmR.no _) (slices_Equal_int.C n) n (Code.go slices_Equal_int.code [1, 1, 0, 1, 0, 0]) (blockK 0 (seqK (EmR.no _) (slices_Equal_int.C n) n (Code.go slices_Equal_int.code [1, 1, 1]) (bodyK (slices_Equal_int.C n) f61 slices_Equal_int.rs))) m0 ⟨[(0, .dat (.slc (.int .i64)) s1_1), (1, .dat (.slc (.int .i64)) s2_1), (12, .dat (.int .i64) v12), (13, .dat (.int .i64) (v13'))], []⟩) s1_1 s2_1 v12 v13 := by kernel_rfl
theorem slices_Equal_int.l0.eq (n : Nat) (s1_1 : (List Int)) (s2_1 : (List Int)) (v12 : Int) : ∀ (m0 : Nat) (v13 : Int), it (EmR.no _) (slices_Equal_int.C n) n (Code.go slices_Equal_int.code [1, 1, 0, 1, 0, 0]) (blockK 0 (seqK (EmR.no _) (slices_Equal_int.C n) n (Code.go slices_Equal_int.code [1, 1, 1]) (bodyK (slices_Equal_int.C n) f61 slices_Equal_int.rs))) m0 ⟨[(0, .dat (.slc (.int .i64)) s1_1), (1, .dat (.slc (.int .i64)) s2_1), (12, .dat (.int .i64) v12), (13, .dat (.int .i64) v13)], []⟩ = slices_Equal_int.l0 n s1_1 s2_1 v12 m0 v13
  | 0, _ => rfl
  | m0 + 1, v13 =>
    (slices_Equal_int.l0.step n m0 s1_1 s2_1 v12 v13).trans (congr1 (fun k0 => slices_Equal_int.s0 n k0 s1_1 s2_1 v12 v13) (funext fun v13' => slices_Equal_int.l0.eq n s1_1 s2_1 v12 m0 v13'))
theorem slices_Equal_int.run0 (n : Nat) (x : pdens slices_Equal_int.ps) : Vi.run (slices_Equal_int.C n) n f61 slices_Equal_int.ps slices_Equal_int.rs x = slices_Equal_int.s n (fun (s1_1' : (List Int)) (s2_1' : (List Int)) (v12' : Int) (v13' : Int) => it (EmR.no _) (slices_Equal_int.C n) n (Code.go slices_Equal_int.code [1, 1, 0, 1, 0, 0]) (blockK 0 (seqK (EmR.no _) (slices_Equal_int.C n) n (Code.go slices_Equal_int.code [1, 1, 1]) (bodyK (slices_Equal_int.C n) f61 slices_Equal_int.rs))) n ⟨[(0, .dat (.slc (.int .i64)) (s1_1')), (1, .dat (.slc (.int .i64)) (s2_1')), (12, .dat (.int .i64) (v12')), (13, .dat (.int .i64) (v13'))], []⟩) x.1 x.2 := by kernel_rfl
theorem slices_Equal_int.eq (n : Nat) (x : pdens slices_Equal_int.ps) : Vi.run (slices_Equal_int.C n) n f61 slices_Equal_int.ps slices_Equal_int.rs x = slices_Equal_int n x.1 x.2 :=
  (slices_Equal_int.run0 n x).trans (congr1 (fun k0 => slices_Equal_int.s n k0 x.1 x.2) (funext fun s1_1' => funext fun s2_1' => funext fun v12' => funext fun v13' => slices_Equal_int.l0.eq n s1_1' s2_1' v12' n v13'))
theorem slices_Equal_int.sound (n : Nat) : SoundE prog 61 (slices_Equal_int.e n) :=
  soundE_of_run (C := slices_Equal_int.C n) (n := n) (slices_Equal_int.ok n) func61 (by kernel_rfl) (by kernel_rfl) (fun x r h => (slices_Equal_int.eq n x).trans h)

def law24_GroupTells.rs : List RTy := [.data .bool]
def law24_GroupTells.ps : List PTy := [.data (.slc TGroup), .data (.slc TGroup), .data (.int .i64), .data (.int .i64)]
noncomputable def law24_GroupTells.e (n : Nat) : Ent := ⟨law24_GroupTells.ps, law24_GroupTells.rs, fun x => law24_GroupTells n x.1 x.2.1 x.2.2.1 x.2.2.2⟩
noncomputable def law24_GroupTells.C (n : Nat) : Ctx := { tab := tab, fts := fts, pts := pts, Γ := lookO [(39, plain_Groups.e n), (42, law24_awake.e n), (45, ref24_Same.e n), (46, group_Right.e n), (47, ref24_Right.e n), (48, group_Names.e n), (49, group_Find.e n), (56, group_Same.e n), (57, ref24_Find.e n), (58, law24_one.e n), (59, group_Loop.e n), (60, ref24_Loop.e n), (61, slices_Equal_int.e n), (62, ref24_Names.e n), (63, group_Check.e n), (64, ref24_Check.e n)], Γc := lookO [], Γs := lookO [], Γm := lookO [], Γo := lookO [], Γd := lookO [], ntmps := f14.ntmps, keep := Vi.look ([], []) [(8, ([3, 70, 71, 72], []))], pins := [] }
theorem law24_GroupTells.ok (n : Nat) : CtxOk prog (law24_GroupTells.C n) := ⟨types, ftsOk_, ptsOk_, (fns_cons (plain_Groups.sound n) (fns_cons (law24_awake.sound n) (fns_cons (ref24_Same.sound n) (fns_cons (group_Right.sound n) (fns_cons (ref24_Right.sound n) (fns_cons (group_Names.sound n) (fns_cons (group_Find.sound n) (fns_cons (group_Same.sound n) (fns_cons (ref24_Find.sound n) (fns_cons (law24_one.sound n) (fns_cons (group_Loop.sound n) (fns_cons (ref24_Loop.sound n) (fns_cons (slices_Equal_int.sound n) (fns_cons (ref24_Names.sound n) (fns_cons (group_Check.sound n) (fns_cons (ref24_Check.sound n) fns_nil)))))))))))))))), cls_nil, sqs_nil, ems_nil, mixed, ons_nil, des_nil⟩
noncomputable def law24_GroupTells.code : Code := bodyOf f14
theorem law24_GroupTells.l0.step (n : Nat) (m0 : Nat) (kind_1 : Int) (v70 : (List Group)) (v71 : Int) (v72 : Int) : it (EmR.no _) (law24_GroupTells.C n) n (Code.go law24_GroupTells.code [1, 1, 1, 1, 1, 0, 1, 0, 0]) (blockK 0 (seqK (EmR.no _) (law24_GroupTells.C n) n (Code.go law24_GroupTells.code [1, 1, 1, 1, 1, 1]) (bodyK (law24_GroupTells.C n) f14 law24_GroupTells.rs))) (m0 + 1) ⟨[(3, .dat (.int .i64) kind_1), (70, .dat (.slc TGroup) v70), (71, .dat (.int .i64) v71), (72, .dat (.int .i64) v72)], []⟩ = law24_GroupTells.s0 n (fun (v72' : Int) => it (EmR.no _) (law24_GroupTells.C n) n (Code.go law24_GroupTells.code [1, 1, 1, 1, 1, 0, 1, 0, 0]) (blockK 0 (seqK (EmR.no _) (law24_GroupTells.C n) n (Code.go law24_GroupTells.code [1, 1, 1, 1, 1, 1]) (bodyK (law24_GroupTells.C n) f14 law24_GroupTells.rs))) m0 ⟨[(3, .dat (.int .i64) kind_1), (70, .dat (.slc TGroup) v70), (71, .dat (.int .i64) v71), (72, .dat (.int .i64) (v72'))], []⟩) kind_1 v70 v71 v72 := by kernel_rfl
theorem law24_GroupTells.l0.eq (n : Nat) (kind_1 : Int) (v70 : (List Group)) (v71 : Int) : ∀ (m0 : Nat) (v72 : Int), it (EmR.no _) (law24_GroupTells.C n) n (Code.go law24_GroupTells.code [1, 1, 1, 1, 1, 0, 1, 0, 0]) (blockK 0 (seqK (EmR.no _) (law24_GroupTells.C n) n (Code.go law24_GroupTells.code [1, 1, 1, 1, 1, 1]) (bodyK (law24_GroupTells.C n) f14 law24_GroupTells.rs))) m0 ⟨[(3, .dat (.int .i64) kind_1), (70, .dat (.slc TGroup) v70), (71, .dat (.int .i64) v71), (72, .dat (.int .i64) v72)], []⟩ = law24_GroupTells.l0 n kind_1 v70 v71 m0 v72
  | 0, _ => rfl
  | m0 + 1, v72 =>
    (law24_GroupTells.l0.step n m0 kind_1 v70 v71 v72).trans (congr1 (fun k0 => law24_GroupTells.s0 n k0 kind_1 v70 v71 v72) (funext fun v72' => law24_GroupTells.l0.eq n kind_1 v70 v71 m0 v72'))
theorem law24_GroupTells.run0 (n : Nat) (x : pdens law24_GroupTells.ps) : Vi.run (law24_GroupTells.C n) n f14 law24_GroupTells.ps law24_GroupTells.rs x = law24_GroupTells.s n (fun (kind_1' : Int) (v70' : (List Group)) (v71' : Int) (v72' : Int) => it (EmR.no _) (law24_GroupTells.C n) n (Code.go law24_GroupTells.code [1, 1, 1, 1, 1, 0, 1, 0, 0]) (blockK 0 (seqK (EmR.no _) (law24_GroupTells.C n) n (Code.go law24_GroupTells.code [1, 1, 1, 1, 1, 1]) (bodyK (law24_GroupTells.C n) f14 law24_GroupTells.rs))) n ⟨[(3, .dat (.int .i64) (kind_1')), (70, .dat (.slc TGroup) (v70')), (71, .dat (.int .i64) (v71')), (72, .dat (.int .i64) (v72'))], []⟩) x.1 x.2.1 x.2.2.1 x.2.2.2 := by kernel_rfl
theorem law24_GroupTells.eq (n : Nat) (x : pdens law24_GroupTells.ps) : Vi.run (law24_GroupTells.C n) n f14 law24_GroupTells.ps law24_GroupTells.rs x = law24_GroupTells n x.1 x.2.1 x.2.2.1 x.2.2.2 :=
  (law24_GroupTells.run0 n x).trans (congr1 (fun k0 => law24_GroupTells.s n k0 x.1 x.2.1 x.2.2.1 x.2.2.2) (funext fun kind_1' => funext fun v70' => funext fun v71' => funext fun v72' => law24_GroupTells.l0.eq n kind_1' v70' v71' n v72'))
theorem law24_GroupTells.sound (n : Nat) : SoundE prog 14 (law24_GroupTells.e n) :=
  soundE_of_run (C := law24_GroupTells.C n) (n := n) (law24_GroupTells.ok n) func14 (by kernel_rfl) (by kernel_rfl) (fun x r h => (law24_GroupTells.eq n x).trans h)
def law24_GroupTells.g (n : Nat) (x : pdens (law24_GroupTells.τs.map PTy.data)) : Option Bool := law24_GroupTells n x.1 x.2.1 x.2.2.1 x.2.2.2
theorem law24_GroupTells.soundN (n : Nat) : SoundE prog 14 ⟨law24_GroupTells.τs.map PTy.data, [.data .bool], law24_GroupTells.g n⟩ := law24_GroupTells.sound n

end Go.Fn
