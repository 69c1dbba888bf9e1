/- That the functions compute what their native texts say: written by the session's program gen.py out of the translation. -/
import Derived.Test.YtpiboooclejjcaaViZ
import Derived.Test.YtpiboooclejjcaaN
import Derived.Test.YtpiboooclejjcaaProg
set_option linter.unusedVariables false
set_option maxRecDepth 100000
namespace Go.Fn
open Go Go.Vi Go.Proofs.Try

def tab : List (Nat × TE) := [(3, ⟨(.int .i64), 0, 0⟩), (4, ⟨.bool, 0, 0⟩), (5, ⟨(.int .u8), 0, 0⟩), (22, ⟨(.int .u64), 0, 0⟩), (24, ⟨TWide, 2, 0⟩), (26, ⟨TTern, 2, 0⟩), (32, ⟨(.slc (.int .i64)), 0, 8⟩), (44, ⟨TCube, 0, 0⟩), (46, ⟨THeader, 0, 0⟩), (58, ⟨(.slc TCube), 0, 768⟩), (69, ⟨(.arr 2 (.int .u64)), 0, 0⟩), (75, ⟨(.int .u64), 0, 0⟩)]
def fts : List Nat := [61]
theorem tabOk_ : tabOk prog tab = true := by kernel_rfl
theorem types : Types prog tab := Types.of tabOk_
theorem ftsOk_ : ftsOk prog fts = true := by kernel_rfl
theorem mixed : prog.follows .mixedOrders = true := by kernel_rfl

def wide_And.rs : List RTy := [.data TWide]
def wide_And.ps : List PTy := [.data TWide, .data TWide]
noncomputable def wide_And.e (n : Nat) : Ent := ⟨wide_And.ps, wide_And.rs, fun x => some (wide_And x.1 x.2)⟩
noncomputable def wide_And.C (n : Nat) : Ctx := { tab := tab, fts := fts, Γ := lookO [], Γc := lookO [], Γs := lookO [], ntmps := f49.ntmps, keep := Vi.look ([], []) [], pins := [] }
theorem wide_And.ok (n : Nat) : CtxOk prog (wide_And.C n) := ⟨types, ftsOk_, fns_nil, cls_nil, sqs_nil, mixed⟩
theorem wide_And.eq (n : Nat) (x : pdens wide_And.ps) : Vi.run (wide_And.C n) n f49 wide_And.ps wide_And.rs x = some (wide_And x.1 x.2) := by kernel_rfl
theorem wide_And.sound (n : Nat) : SoundE prog 49 (wide_And.e n) :=
  soundE_of_run (C := wide_And.C n) (n := n) (wide_And.ok n) func49 (by kernel_rfl) (by kernel_rfl) (fun x r h => (wide_And.eq n x).trans h)

def wide_Xor.rs : List RTy := [.data TWide]
def wide_Xor.ps : List PTy := [.data TWide, .data TWide]
noncomputable def wide_Xor.e (n : Nat) : Ent := ⟨wide_Xor.ps, wide_Xor.rs, fun x => some (wide_Xor x.1 x.2)⟩
noncomputable def wide_Xor.C (n : Nat) : Ctx := { tab := tab, fts := fts, Γ := lookO [], Γc := lookO [], Γs := lookO [], ntmps := f28.ntmps, keep := Vi.look ([], []) [], pins := [] }
theorem wide_Xor.ok (n : Nat) : CtxOk prog (wide_Xor.C n) := ⟨types, ftsOk_, fns_nil, cls_nil, sqs_nil, mixed⟩
theorem wide_Xor.eq (n : Nat) (x : pdens wide_Xor.ps) : Vi.run (wide_Xor.C n) n f28 wide_Xor.ps wide_Xor.rs x = some (wide_Xor x.1 x.2) := by kernel_rfl
theorem wide_Xor.sound (n : Nat) : SoundE prog 28 (wide_Xor.e n) :=
  soundE_of_run (C := wide_Xor.C n) (n := n) (wide_Xor.ok n) func28 (by kernel_rfl) (by kernel_rfl) (fun x r h => (wide_Xor.eq n x).trans h)

def tern_unlike.rs : List RTy := [.data TWide]
def tern_unlike.ps : List PTy := [.data TWide, .data TWide, .data TWide]
noncomputable def tern_unlike.e (n : Nat) : Ent := ⟨tern_unlike.ps, tern_unlike.rs, fun x => some (tern_unlike x.1 x.2.1 x.2.2)⟩
noncomputable def tern_unlike.C (n : Nat) : Ctx := { tab := tab, fts := fts, Γ := lookO [(28, wide_Xor.e n), (49, wide_And.e n)], Γc := lookO [], Γs := lookO [], ntmps := f63.ntmps, keep := Vi.look ([], []) [], pins := [] }
theorem tern_unlike.ok (n : Nat) : CtxOk prog (tern_unlike.C n) := ⟨types, ftsOk_, (fns_cons (wide_Xor.sound n) (fns_cons (wide_And.sound n) fns_nil)), cls_nil, sqs_nil, mixed⟩
theorem tern_unlike.eq (n : Nat) (x : pdens tern_unlike.ps) : Vi.run (tern_unlike.C n) n f63 tern_unlike.ps tern_unlike.rs x = some (tern_unlike x.1 x.2.1 x.2.2) := by kernel_rfl
theorem tern_unlike.sound (n : Nat) : SoundE prog 63 (tern_unlike.e n) :=
  soundE_of_run (C := tern_unlike.C n) (n := n) (tern_unlike.ok n) func63 (by kernel_rfl) (by kernel_rfl) (fun x r h => (tern_unlike.eq n x).trans h)

def wide_Zero.rs : List RTy := [.data .bool]
def wide_Zero.ps : List PTy := [.data TWide]
noncomputable def wide_Zero.e (n : Nat) : Ent := ⟨wide_Zero.ps, wide_Zero.rs, fun x => some (wide_Zero x)⟩
noncomputable def wide_Zero.C (n : Nat) : Ctx := { tab := tab, fts := fts, Γ := lookO [], Γc := lookO [], Γs := lookO [], ntmps := f62.ntmps, keep := Vi.look ([], []) [], pins := [] }
theorem wide_Zero.ok (n : Nat) : CtxOk prog (wide_Zero.C n) := ⟨types, ftsOk_, fns_nil, cls_nil, sqs_nil, mixed⟩
theorem wide_Zero.eq (n : Nat) (x : pdens wide_Zero.ps) : Vi.run (wide_Zero.C n) n f62 wide_Zero.ps wide_Zero.rs x = some (wide_Zero x) := by kernel_rfl
theorem wide_Zero.sound (n : Nat) : SoundE prog 62 (wide_Zero.e n) :=
  soundE_of_run (C := wide_Zero.C n) (n := n) (wide_Zero.ok n) func62 (by kernel_rfl) (by kernel_rfl) (fun x r h => (wide_Zero.eq n x).trans h)

def tern_Has.rs : List RTy := [.data .bool]
def tern_Has.ps : List PTy := [.data TTern, .data TWide]
noncomputable def tern_Has.e (n : Nat) : Ent := ⟨tern_Has.ps, tern_Has.rs, fun x => some (tern_Has x.1 x.2)⟩
noncomputable def tern_Has.C (n : Nat) : Ctx := { tab := tab, fts := fts, Γ := lookO [(62, wide_Zero.e n), (63, tern_unlike.e n)], Γc := lookO [], Γs := lookO [], ntmps := f16.ntmps, keep := Vi.look ([], []) [], pins := [] }
theorem tern_Has.ok (n : Nat) : CtxOk prog (tern_Has.C n) := ⟨types, ftsOk_, (fns_cons (wide_Zero.sound n) (fns_cons (tern_unlike.sound n) fns_nil)), cls_nil, sqs_nil, mixed⟩
theorem tern_Has.eq (n : Nat) (x : pdens tern_Has.ps) : Vi.run (tern_Has.C n) n f16 tern_Has.ps tern_Has.rs x = some (tern_Has x.1 x.2) := by kernel_rfl
theorem tern_Has.sound (n : Nat) : SoundE prog 16 (tern_Has.e n) :=
  soundE_of_run (C := tern_Has.C n) (n := n) (tern_Has.ok n) func16 (by kernel_rfl) (by kernel_rfl) (fun x r h => (tern_Has.eq n x).trans h)

def tern_Clean.rs : List RTy := [.data TTern]
def tern_Clean.ps : List PTy := [.data TTern]
noncomputable def tern_Clean.e (n : Nat) : Ent := ⟨tern_Clean.ps, tern_Clean.rs, fun x => some (tern_Clean x)⟩
noncomputable def tern_Clean.C (n : Nat) : Ctx := { tab := tab, fts := fts, Γ := lookO [(49, wide_And.e n)], Γc := lookO [], Γs := lookO [], ntmps := f23.ntmps, keep := Vi.look ([], []) [], pins := [] }
theorem tern_Clean.ok (n : Nat) : CtxOk prog (tern_Clean.C n) := ⟨types, ftsOk_, (fns_cons (wide_And.sound n) fns_nil), cls_nil, sqs_nil, mixed⟩
theorem tern_Clean.eq (n : Nat) (x : pdens tern_Clean.ps) : Vi.run (tern_Clean.C n) n f23 tern_Clean.ps tern_Clean.rs x = some (tern_Clean x) := by kernel_rfl
theorem tern_Clean.sound (n : Nat) : SoundE prog 23 (tern_Clean.e n) :=
  soundE_of_run (C := tern_Clean.C n) (n := n) (tern_Clean.ok n) func23 (by kernel_rfl) (by kernel_rfl) (fun x r h => (tern_Clean.eq n x).trans h)

def wide_Or.rs : List RTy := [.data TWide]
def wide_Or.ps : List PTy := [.data TWide, .data TWide]
noncomputable def wide_Or.e (n : Nat) : Ent := ⟨wide_Or.ps, wide_Or.rs, fun x => some (wide_Or x.1 x.2)⟩
noncomputable def wide_Or.C (n : Nat) : Ctx := { tab := tab, fts := fts, Γ := lookO [], Γc := lookO [], Γs := lookO [], ntmps := f48.ntmps, keep := Vi.look ([], []) [], pins := [] }
theorem wide_Or.ok (n : Nat) : CtxOk prog (wide_Or.C n) := ⟨types, ftsOk_, fns_nil, cls_nil, sqs_nil, mixed⟩
theorem wide_Or.eq (n : Nat) (x : pdens wide_Or.ps) : Vi.run (wide_Or.C n) n f48 wide_Or.ps wide_Or.rs x = some (wide_Or x.1 x.2) := by kernel_rfl
theorem wide_Or.sound (n : Nat) : SoundE prog 48 (wide_Or.e n) :=
  soundE_of_run (C := wide_Or.C n) (n := n) (wide_Or.ok n) func48 (by kernel_rfl) (by kernel_rfl) (fun x r h => (wide_Or.eq n x).trans h)

def tern_Meet.rs : List RTy := [.data TTern, .data .bool]
def tern_Meet.ps : List PTy := [.data TTern, .data TTern]
noncomputable def tern_Meet.e (n : Nat) : Ent := ⟨tern_Meet.ps, tern_Meet.rs, fun x => some (tern_Meet x.1 x.2)⟩
noncomputable def tern_Meet.C (n : Nat) : Ctx := { tab := tab, fts := fts, Γ := lookO [(16, tern_Has.e n), (23, tern_Clean.e n), (48, wide_Or.e n), (49, wide_And.e n)], Γc := lookO [], Γs := lookO [], ntmps := f14.ntmps, keep := Vi.look ([], []) [], pins := [] }
theorem tern_Meet.ok (n : Nat) : CtxOk prog (tern_Meet.C n) := ⟨types, ftsOk_, (fns_cons (tern_Has.sound n) (fns_cons (tern_Clean.sound n) (fns_cons (wide_Or.sound n) (fns_cons (wide_And.sound n) fns_nil)))), cls_nil, sqs_nil, mixed⟩
theorem tern_Meet.run0 (n : Nat) (x : pdens tern_Meet.ps) : Vi.run (tern_Meet.C n) n f14 tern_Meet.ps tern_Meet.rs x = tern_Meet.o x.1 x.2 := by kernel_rfl
theorem tern_Meet.eq (n : Nat) (x : pdens tern_Meet.ps) : Vi.run (tern_Meet.C n) n f14 tern_Meet.ps tern_Meet.rs x = some (tern_Meet x.1 x.2) := (tern_Meet.run0 n x).trans (tern_Meet.o_eq _ _)
theorem tern_Meet.sound (n : Nat) : SoundE prog 14 (tern_Meet.e n) :=
  soundE_of_run (C := tern_Meet.C n) (n := n) (tern_Meet.ok n) func14 (by kernel_rfl) (by kernel_rfl) (fun x r h => (tern_Meet.eq n x).trans h)

def ref02_And.rs : List RTy := [.data TWide]
def ref02_And.ps : List PTy := [.data TWide, .data TWide]
noncomputable def ref02_And.e (n : Nat) : Ent := ⟨ref02_And.ps, ref02_And.rs, fun x => some (ref02_And x.1 x.2)⟩
noncomputable def ref02_And.C (n : Nat) : Ctx := { tab := tab, fts := fts, Γ := lookO [], Γc := lookO [], Γs := lookO [], ntmps := f58.ntmps, keep := Vi.look ([], []) [], pins := [] }
theorem ref02_And.ok (n : Nat) : CtxOk prog (ref02_And.C n) := ⟨types, ftsOk_, fns_nil, cls_nil, sqs_nil, mixed⟩
theorem ref02_And.eq (n : Nat) (x : pdens ref02_And.ps) : Vi.run (ref02_And.C n) n f58 ref02_And.ps ref02_And.rs x = some (ref02_And x.1 x.2) := by kernel_rfl
theorem ref02_And.sound (n : Nat) : SoundE prog 58 (ref02_And.e n) :=
  soundE_of_run (C := ref02_And.C n) (n := n) (ref02_And.ok n) func58 (by kernel_rfl) (by kernel_rfl) (fun x r h => (ref02_And.eq n x).trans h)

def ref02_Xor.rs : List RTy := [.data TWide]
def ref02_Xor.ps : List PTy := [.data TWide, .data TWide]
noncomputable def ref02_Xor.e (n : Nat) : Ent := ⟨ref02_Xor.ps, ref02_Xor.rs, fun x => some (ref02_Xor x.1 x.2)⟩
noncomputable def ref02_Xor.C (n : Nat) : Ctx := { tab := tab, fts := fts, Γ := lookO [], Γc := lookO [], Γs := lookO [], ntmps := f60.ntmps, keep := Vi.look ([], []) [], pins := [] }
theorem ref02_Xor.ok (n : Nat) : CtxOk prog (ref02_Xor.C n) := ⟨types, ftsOk_, fns_nil, cls_nil, sqs_nil, mixed⟩
theorem ref02_Xor.eq (n : Nat) (x : pdens ref02_Xor.ps) : Vi.run (ref02_Xor.C n) n f60 ref02_Xor.ps ref02_Xor.rs x = some (ref02_Xor x.1 x.2) := by kernel_rfl
theorem ref02_Xor.sound (n : Nat) : SoundE prog 60 (ref02_Xor.e n) :=
  soundE_of_run (C := ref02_Xor.C n) (n := n) (ref02_Xor.ok n) func60 (by kernel_rfl) (by kernel_rfl) (fun x r h => (ref02_Xor.eq n x).trans h)

def ref02_Zero.rs : List RTy := [.data .bool]
def ref02_Zero.ps : List PTy := [.data TWide]
noncomputable def ref02_Zero.e (n : Nat) : Ent := ⟨ref02_Zero.ps, ref02_Zero.rs, fun x => some (ref02_Zero x)⟩
noncomputable def ref02_Zero.C (n : Nat) : Ctx := { tab := tab, fts := fts, Γ := lookO [], Γc := lookO [], Γs := lookO [], ntmps := f59.ntmps, keep := Vi.look ([], []) [], pins := [] }
theorem ref02_Zero.ok (n : Nat) : CtxOk prog (ref02_Zero.C n) := ⟨types, ftsOk_, fns_nil, cls_nil, sqs_nil, mixed⟩
theorem ref02_Zero.run0 (n : Nat) (x : pdens ref02_Zero.ps) : Vi.run (ref02_Zero.C n) n f59 ref02_Zero.ps ref02_Zero.rs x = ref02_Zero.o x := by kernel_rfl
theorem ref02_Zero.eq (n : Nat) (x : pdens ref02_Zero.ps) : Vi.run (ref02_Zero.C n) n f59 ref02_Zero.ps ref02_Zero.rs x = some (ref02_Zero x) := (ref02_Zero.run0 n x).trans (ref02_Zero.o_eq _)
theorem ref02_Zero.sound (n : Nat) : SoundE prog 59 (ref02_Zero.e n) :=
  soundE_of_run (C := ref02_Zero.C n) (n := n) (ref02_Zero.ok n) func59 (by kernel_rfl) (by kernel_rfl) (fun x r h => (ref02_Zero.eq n x).trans h)

def ref05_Clean.rs : List RTy := [.data TTern]
def ref05_Clean.ps : List PTy := [.data TTern]
noncomputable def ref05_Clean.e (n : Nat) : Ent := ⟨ref05_Clean.ps, ref05_Clean.rs, fun x => some (ref05_Clean x)⟩
noncomputable def ref05_Clean.C (n : Nat) : Ctx := { tab := tab, fts := fts, Γ := lookO [(58, ref02_And.e n)], Γc := lookO [], Γs := lookO [], ntmps := f24.ntmps, keep := Vi.look ([], []) [], pins := [] }
theorem ref05_Clean.ok (n : Nat) : CtxOk prog (ref05_Clean.C n) := ⟨types, ftsOk_, (fns_cons (ref02_And.sound n) fns_nil), cls_nil, sqs_nil, mixed⟩
theorem ref05_Clean.eq (n : Nat) (x : pdens ref05_Clean.ps) : Vi.run (ref05_Clean.C n) n f24 ref05_Clean.ps ref05_Clean.rs x = some (ref05_Clean x) := by kernel_rfl
theorem ref05_Clean.sound (n : Nat) : SoundE prog 24 (ref05_Clean.e n) :=
  soundE_of_run (C := ref05_Clean.C n) (n := n) (ref05_Clean.ok n) func24 (by kernel_rfl) (by kernel_rfl) (fun x r h => (ref05_Clean.eq n x).trans h)

def ref02_Or.rs : List RTy := [.data TWide]
def ref02_Or.ps : List PTy := [.data TWide, .data TWide]
noncomputable def ref02_Or.e (n : Nat) : Ent := ⟨ref02_Or.ps, ref02_Or.rs, fun x => some (ref02_Or x.1 x.2)⟩
noncomputable def ref02_Or.C (n : Nat) : Ctx := { tab := tab, fts := fts, Γ := lookO [], Γc := lookO [], Γs := lookO [], ntmps := f61.ntmps, keep := Vi.look ([], []) [], pins := [] }
theorem ref02_Or.ok (n : Nat) : CtxOk prog (ref02_Or.C n) := ⟨types, ftsOk_, fns_nil, cls_nil, sqs_nil, mixed⟩
theorem ref02_Or.eq (n : Nat) (x : pdens ref02_Or.ps) : Vi.run (ref02_Or.C n) n f61 ref02_Or.ps ref02_Or.rs x = some (ref02_Or x.1 x.2) := by kernel_rfl
theorem ref02_Or.sound (n : Nat) : SoundE prog 61 (ref02_Or.e n) :=
  soundE_of_run (C := ref02_Or.C n) (n := n) (ref02_Or.ok n) func61 (by kernel_rfl) (by kernel_rfl) (fun x r h => (ref02_Or.eq n x).trans h)

def ref05_Meet.rs : List RTy := [.data TTern, .data .bool]
def ref05_Meet.ps : List PTy := [.data TTern, .data TTern]
noncomputable def ref05_Meet.e (n : Nat) : Ent := ⟨ref05_Meet.ps, ref05_Meet.rs, fun x => some (ref05_Meet x.1 x.2)⟩
noncomputable def ref05_Meet.C (n : Nat) : Ctx := { tab := tab, fts := fts, Γ := lookO [(24, ref05_Clean.e n), (58, ref02_And.e n), (59, ref02_Zero.e n), (60, ref02_Xor.e n), (61, ref02_Or.e n)], Γc := lookO [], Γs := lookO [], ntmps := f15.ntmps, keep := Vi.look ([], []) [], pins := [] }
theorem ref05_Meet.ok (n : Nat) : CtxOk prog (ref05_Meet.C n) := ⟨types, ftsOk_, (fns_cons (ref05_Clean.sound n) (fns_cons (ref02_And.sound n) (fns_cons (ref02_Zero.sound n) (fns_cons (ref02_Xor.sound n) (fns_cons (ref02_Or.sound n) fns_nil))))), cls_nil, sqs_nil, mixed⟩
theorem ref05_Meet.run0 (n : Nat) (x : pdens ref05_Meet.ps) : Vi.run (ref05_Meet.C n) n f15 ref05_Meet.ps ref05_Meet.rs x = ref05_Meet.o x.1 x.2 := by kernel_rfl
theorem ref05_Meet.eq (n : Nat) (x : pdens ref05_Meet.ps) : Vi.run (ref05_Meet.C n) n f15 ref05_Meet.ps ref05_Meet.rs x = some (ref05_Meet x.1 x.2) := (ref05_Meet.run0 n x).trans (ref05_Meet.o_eq _ _)
theorem ref05_Meet.sound (n : Nat) : SoundE prog 15 (ref05_Meet.e n) :=
  soundE_of_run (C := ref05_Meet.C n) (n := n) (ref05_Meet.ok n) func15 (by kernel_rfl) (by kernel_rfl) (fun x r h => (ref05_Meet.eq n x).trans h)

def ref05_Has.rs : List RTy := [.data .bool]
def ref05_Has.ps : List PTy := [.data TTern, .data TWide]
noncomputable def ref05_Has.e (n : Nat) : Ent := ⟨ref05_Has.ps, ref05_Has.rs, fun x => some (ref05_Has x.1 x.2)⟩
noncomputable def ref05_Has.C (n : Nat) : Ctx := { tab := tab, fts := fts, Γ := lookO [(58, ref02_And.e n), (59, ref02_Zero.e n), (60, ref02_Xor.e n)], Γc := lookO [], Γs := lookO [], ntmps := f17.ntmps, keep := Vi.look ([], []) [], pins := [] }
theorem ref05_Has.ok (n : Nat) : CtxOk prog (ref05_Has.C n) := ⟨types, ftsOk_, (fns_cons (ref02_And.sound n) (fns_cons (ref02_Zero.sound n) (fns_cons (ref02_Xor.sound n) fns_nil))), cls_nil, sqs_nil, mixed⟩
theorem ref05_Has.eq (n : Nat) (x : pdens ref05_Has.ps) : Vi.run (ref05_Has.C n) n f17 ref05_Has.ps ref05_Has.rs x = some (ref05_Has x.1 x.2) := by kernel_rfl
theorem ref05_Has.sound (n : Nat) : SoundE prog 17 (ref05_Has.e n) :=
  soundE_of_run (C := ref05_Has.C n) (n := n) (ref05_Has.ok n) func17 (by kernel_rfl) (by kernel_rfl) (fun x r h => (ref05_Has.eq n x).trans h)

def wide_Less.rs : List RTy := [.data TWide]
def wide_Less.ps : List PTy := [.data TWide, .data TWide]
noncomputable def wide_Less.e (n : Nat) : Ent := ⟨wide_Less.ps, wide_Less.rs, fun x => some (wide_Less x.1 x.2)⟩
noncomputable def wide_Less.C (n : Nat) : Ctx := { tab := tab, fts := fts, Γ := lookO [], Γc := lookO [], Γs := lookO [], ntmps := f50.ntmps, keep := Vi.look ([], []) [], pins := [] }
theorem wide_Less.ok (n : Nat) : CtxOk prog (wide_Less.C n) := ⟨types, ftsOk_, fns_nil, cls_nil, sqs_nil, mixed⟩
theorem wide_Less.eq (n : Nat) (x : pdens wide_Less.ps) : Vi.run (wide_Less.C n) n f50 wide_Less.ps wide_Less.rs x = some (wide_Less x.1 x.2) := by kernel_rfl
theorem wide_Less.sound (n : Nat) : SoundE prog 50 (wide_Less.e n) :=
  soundE_of_run (C := wide_Less.C n) (n := n) (wide_Less.ok n) func50 (by kernel_rfl) (by kernel_rfl) (fun x r h => (wide_Less.eq n x).trans h)

def tern_Within.rs : List RTy := [.data .bool]
def tern_Within.ps : List PTy := [.data TTern, .data TTern]
noncomputable def tern_Within.e (n : Nat) : Ent := ⟨tern_Within.ps, tern_Within.rs, fun x => some (tern_Within x.1 x.2)⟩
noncomputable def tern_Within.C (n : Nat) : Ctx := { tab := tab, fts := fts, Γ := lookO [(16, tern_Has.e n), (50, wide_Less.e n), (62, wide_Zero.e n)], Γc := lookO [], Γs := lookO [], ntmps := f18.ntmps, keep := Vi.look ([], []) [], pins := [] }
theorem tern_Within.ok (n : Nat) : CtxOk prog (tern_Within.C n) := ⟨types, ftsOk_, (fns_cons (tern_Has.sound n) (fns_cons (wide_Less.sound n) (fns_cons (wide_Zero.sound n) fns_nil))), cls_nil, sqs_nil, mixed⟩
theorem tern_Within.run0 (n : Nat) (x : pdens tern_Within.ps) : Vi.run (tern_Within.C n) n f18 tern_Within.ps tern_Within.rs x = tern_Within.o x.1 x.2 := by kernel_rfl
theorem tern_Within.eq (n : Nat) (x : pdens tern_Within.ps) : Vi.run (tern_Within.C n) n f18 tern_Within.ps tern_Within.rs x = some (tern_Within x.1 x.2) := (tern_Within.run0 n x).trans (tern_Within.o_eq _ _)
theorem tern_Within.sound (n : Nat) : SoundE prog 18 (tern_Within.e n) :=
  soundE_of_run (C := tern_Within.C n) (n := n) (tern_Within.ok n) func18 (by kernel_rfl) (by kernel_rfl) (fun x r h => (tern_Within.eq n x).trans h)

def ref02_Less.rs : List RTy := [.data TWide]
def ref02_Less.ps : List PTy := [.data TWide, .data TWide]
noncomputable def ref02_Less.e (n : Nat) : Ent := ⟨ref02_Less.ps, ref02_Less.rs, fun x => some (ref02_Less x.1 x.2)⟩
noncomputable def ref02_Less.C (n : Nat) : Ctx := { tab := tab, fts := fts, Γ := lookO [], Γc := lookO [], Γs := lookO [], ntmps := f64.ntmps, keep := Vi.look ([], []) [], pins := [] }
theorem ref02_Less.ok (n : Nat) : CtxOk prog (ref02_Less.C n) := ⟨types, ftsOk_, fns_nil, cls_nil, sqs_nil, mixed⟩
theorem ref02_Less.eq (n : Nat) (x : pdens ref02_Less.ps) : Vi.run (ref02_Less.C n) n f64 ref02_Less.ps ref02_Less.rs x = some (ref02_Less x.1 x.2) := by kernel_rfl
theorem ref02_Less.sound (n : Nat) : SoundE prog 64 (ref02_Less.e n) :=
  soundE_of_run (C := ref02_Less.C n) (n := n) (ref02_Less.ok n) func64 (by kernel_rfl) (by kernel_rfl) (fun x r h => (ref02_Less.eq n x).trans h)

def ref05_Within.rs : List RTy := [.data .bool]
def ref05_Within.ps : List PTy := [.data TTern, .data TTern]
noncomputable def ref05_Within.e (n : Nat) : Ent := ⟨ref05_Within.ps, ref05_Within.rs, fun x => some (ref05_Within x.1 x.2)⟩
noncomputable def ref05_Within.C (n : Nat) : Ctx := { tab := tab, fts := fts, Γ := lookO [(58, ref02_And.e n), (59, ref02_Zero.e n), (60, ref02_Xor.e n), (64, ref02_Less.e n)], Γc := lookO [], Γs := lookO [], ntmps := f19.ntmps, keep := Vi.look ([], []) [], pins := [] }
theorem ref05_Within.ok (n : Nat) : CtxOk prog (ref05_Within.C n) := ⟨types, ftsOk_, (fns_cons (ref02_And.sound n) (fns_cons (ref02_Zero.sound n) (fns_cons (ref02_Xor.sound n) (fns_cons (ref02_Less.sound n) fns_nil)))), cls_nil, sqs_nil, mixed⟩
theorem ref05_Within.run0 (n : Nat) (x : pdens ref05_Within.ps) : Vi.run (ref05_Within.C n) n f19 ref05_Within.ps ref05_Within.rs x = ref05_Within.o x.1 x.2 := by kernel_rfl
theorem ref05_Within.eq (n : Nat) (x : pdens ref05_Within.ps) : Vi.run (ref05_Within.C n) n f19 ref05_Within.ps ref05_Within.rs x = some (ref05_Within x.1 x.2) := (ref05_Within.run0 n x).trans (ref05_Within.o_eq _ _)
theorem ref05_Within.sound (n : Nat) : SoundE prog 19 (ref05_Within.e n) :=
  soundE_of_run (C := ref05_Within.C n) (n := n) (ref05_Within.ok n) func19 (by kernel_rfl) (by kernel_rfl) (fun x r h => (ref05_Within.eq n x).trans h)

def math_bits_OnesCount64.rs : List RTy := [.data (.int .i64)]
def math_bits_OnesCount64.ps : List PTy := [.data (.int .u64)]
noncomputable def math_bits_OnesCount64.e (n : Nat) : Ent := ⟨math_bits_OnesCount64.ps, math_bits_OnesCount64.rs, fun x => some (math_bits_OnesCount64 x)⟩
noncomputable def math_bits_OnesCount64.C (n : Nat) : Ctx := { tab := tab, fts := fts, Γ := lookO [], Γc := lookO [], Γs := lookO [], ntmps := f77.ntmps, keep := Vi.look ([], []) [], pins := [] }
theorem math_bits_OnesCount64.ok (n : Nat) : CtxOk prog (math_bits_OnesCount64.C n) := ⟨types, ftsOk_, fns_nil, cls_nil, sqs_nil, mixed⟩
theorem math_bits_OnesCount64.eq (n : Nat) (x : pdens math_bits_OnesCount64.ps) : Vi.run (math_bits_OnesCount64.C n) n f77 math_bits_OnesCount64.ps math_bits_OnesCount64.rs x = some (math_bits_OnesCount64 x) := by kernel_rfl
theorem math_bits_OnesCount64.sound (n : Nat) : SoundE prog 77 (math_bits_OnesCount64.e n) :=
  soundE_of_run (C := math_bits_OnesCount64.C n) (n := n) (math_bits_OnesCount64.ok n) func77 (by kernel_rfl) (by kernel_rfl) (fun x r h => (math_bits_OnesCount64.eq n x).trans h)

def wide_Many.rs : List RTy := [.data (.int .i64)]
def wide_Many.ps : List PTy := [.data TWide]
noncomputable def wide_Many.e (n : Nat) : Ent := ⟨wide_Many.ps, wide_Many.rs, fun x => some (wide_Many x)⟩
noncomputable def wide_Many.C (n : Nat) : Ctx := { tab := tab, fts := fts, Γ := lookO [(77, math_bits_OnesCount64.e n)], Γc := lookO [], Γs := lookO [], ntmps := f65.ntmps, keep := Vi.look ([], []) [], pins := [] }
theorem wide_Many.ok (n : Nat) : CtxOk prog (wide_Many.C n) := ⟨types, ftsOk_, (fns_cons (math_bits_OnesCount64.sound n) fns_nil), cls_nil, sqs_nil, mixed⟩
theorem wide_Many.eq (n : Nat) (x : pdens wide_Many.ps) : Vi.run (wide_Many.C n) n f65 wide_Many.ps wide_Many.rs x = some (wide_Many x) := by kernel_rfl
theorem wide_Many.sound (n : Nat) : SoundE prog 65 (wide_Many.e n) :=
  soundE_of_run (C := wide_Many.C n) (n := n) (wide_Many.ok n) func65 (by kernel_rfl) (by kernel_rfl) (fun x r h => (wide_Many.eq n x).trans h)

def wide_Bit.rs : List RTy := [.data TWide]
def wide_Bit.ps : List PTy := [.data (.int .i64)]
noncomputable def wide_Bit.e (n : Nat) : Ent := ⟨wide_Bit.ps, wide_Bit.rs, fun x => wide_Bit x⟩
noncomputable def wide_Bit.C (n : Nat) : Ctx := { tab := tab, fts := fts, Γ := lookO [], Γc := lookO [], Γs := lookO [], ntmps := f29.ntmps, keep := Vi.look ([], []) [], pins := [] }
theorem wide_Bit.ok (n : Nat) : CtxOk prog (wide_Bit.C n) := ⟨types, ftsOk_, fns_nil, cls_nil, sqs_nil, mixed⟩
theorem wide_Bit.eq (n : Nat) (x : pdens wide_Bit.ps) : Vi.run (wide_Bit.C n) n f29 wide_Bit.ps wide_Bit.rs x = wide_Bit x := by kernel_rfl
theorem wide_Bit.sound (n : Nat) : SoundE prog 29 (wide_Bit.e n) :=
  soundE_of_run (C := wide_Bit.C n) (n := n) (wide_Bit.ok n) func29 (by kernel_rfl) (by kernel_rfl) (fun x r h => (wide_Bit.eq n x).trans h)

def wide_Has.rs : List RTy := [.data .bool]
def wide_Has.ps : List PTy := [.data TWide, .data (.int .i64)]
noncomputable def wide_Has.e (n : Nat) : Ent := ⟨wide_Has.ps, wide_Has.rs, fun x => wide_Has x.1 x.2⟩
noncomputable def wide_Has.C (n : Nat) : Ctx := { tab := tab, fts := fts, Γ := lookO [(29, wide_Bit.e n), (49, wide_And.e n), (62, wide_Zero.e n)], Γc := lookO [], Γs := lookO [], ntmps := f30.ntmps, keep := Vi.look ([], []) [], pins := [] }
theorem wide_Has.ok (n : Nat) : CtxOk prog (wide_Has.C n) := ⟨types, ftsOk_, (fns_cons (wide_Bit.sound n) (fns_cons (wide_And.sound n) (fns_cons (wide_Zero.sound n) fns_nil))), cls_nil, sqs_nil, mixed⟩
theorem wide_Has.eq (n : Nat) (x : pdens wide_Has.ps) : Vi.run (wide_Has.C n) n f30 wide_Has.ps wide_Has.rs x = wide_Has x.1 x.2 := by kernel_rfl
theorem wide_Has.sound (n : Nat) : SoundE prog 30 (wide_Has.e n) :=
  soundE_of_run (C := wide_Has.C n) (n := n) (wide_Has.ok n) func30 (by kernel_rfl) (by kernel_rfl) (fun x r h => (wide_Has.eq n x).trans h)

def tern_Bits.rs : List RTy := [.fresh (.int .i64)]
def tern_Bits.ps : List PTy := [.data TTern, .data TTern]
noncomputable def tern_Bits.e (n : Nat) : Ent := ⟨tern_Bits.ps, tern_Bits.rs, fun x => tern_Bits n x.1 x.2⟩
noncomputable def tern_Bits.C (n : Nat) : Ctx := { tab := tab, fts := fts, Γ := lookO [(30, wide_Has.e n), (50, wide_Less.e n), (65, wide_Many.e n)], Γc := lookO [], Γs := lookO [], ntmps := f21.ntmps, keep := Vi.look ([], []) [(4, ([5, 6, 7], [5]))], pins := [] }
theorem tern_Bits.ok (n : Nat) : CtxOk prog (tern_Bits.C n) := ⟨types, ftsOk_, (fns_cons (wide_Has.sound n) (fns_cons (wide_Less.sound n) (fns_cons (wide_Many.sound n) fns_nil))), cls_nil, sqs_nil, mixed⟩
noncomputable def tern_Bits.code : Code := bodyOf f21
theorem tern_Bits.l0.step (n : Nat) (m0 : Nat) (out : (List Int)) (i : Int) (free : Wide) : it (EmR.no _) (tern_Bits.C n) n (Code.go tern_Bits.code [1, 1, 1, 0, 1, 0, 0]) (blockK 0 (seqK (EmR.no _) (tern_Bits.C n) n (Code.go tern_Bits.code [1, 1, 1, 1]) (bodyK (tern_Bits.C n) f21 tern_Bits.rs))) (m0 + 1) ⟨[(5, .ptr 5 0 TWide []), (6, .lst (.tip 100006 0) (.int .i64) out), (7, .dat (.int .i64) i)], [(100006, .tok 0), (5, .box 0 false (.dat TWide free))]⟩ = tern_Bits.s0 n (fun (out' : (List Int)) (i' : Int) => it (EmR.no _) (tern_Bits.C n) n (Code.go tern_Bits.code [1, 1, 1, 0, 1, 0, 0]) (blockK 0 (seqK (EmR.no _) (tern_Bits.C n) n (Code.go tern_Bits.code [1, 1, 1, 1]) (bodyK (tern_Bits.C n) f21 tern_Bits.rs))) m0 ⟨[(5, .ptr 5 0 TWide []), (6, .lst (.tip 100006 0) (.int .i64) (out')), (7, .dat (.int .i64) (i'))], [(100006, .tok 0), (5, .box 0 false (.dat TWide free))]⟩) out i free := by kernel_rfl
theorem tern_Bits.l0.eq (n : Nat) (free : Wide) : ∀ (m0 : Nat) (out : (List Int)) (i : Int), it (EmR.no _) (tern_Bits.C n) n (Code.go tern_Bits.code [1, 1, 1, 0, 1, 0, 0]) (blockK 0 (seqK (EmR.no _) (tern_Bits.C n) n (Code.go tern_Bits.code [1, 1, 1, 1]) (bodyK (tern_Bits.C n) f21 tern_Bits.rs))) m0 ⟨[(5, .ptr 5 0 TWide []), (6, .lst (.tip 100006 0) (.int .i64) out), (7, .dat (.int .i64) i)], [(100006, .tok 0), (5, .box 0 false (.dat TWide free))]⟩ = tern_Bits.l0 n free m0 out i
  | 0, _, _ => rfl
  | m0 + 1, out, i =>
    (tern_Bits.l0.step n m0 out i free).trans (congr1 (fun k0 => tern_Bits.s0 n k0 out i free) (funext fun out' => funext fun i' => tern_Bits.l0.eq n free m0 out' i'))
theorem tern_Bits.run0 (n : Nat) (x : pdens tern_Bits.ps) : Vi.run (tern_Bits.C n) n f21 tern_Bits.ps tern_Bits.rs x = tern_Bits.s n (fun (out' : (List Int)) (i' : Int) (free' : Wide) => it (EmR.no _) (tern_Bits.C n) n (Code.go tern_Bits.code [1, 1, 1, 0, 1, 0, 0]) (blockK 0 (seqK (EmR.no _) (tern_Bits.C n) n (Code.go tern_Bits.code [1, 1, 1, 1]) (bodyK (tern_Bits.C n) f21 tern_Bits.rs))) n ⟨[(5, .ptr 5 0 TWide []), (6, .lst (.tip 100006 0) (.int .i64) (out')), (7, .dat (.int .i64) (i'))], [(100006, .tok 0), (5, .box 0 false (.dat TWide (free')))]⟩) x.1 x.2 := by kernel_rfl
theorem tern_Bits.eq (n : Nat) (x : pdens tern_Bits.ps) : Vi.run (tern_Bits.C n) n f21 tern_Bits.ps tern_Bits.rs x = tern_Bits n x.1 x.2 :=
  (tern_Bits.run0 n x).trans (congr1 (fun k0 => tern_Bits.s n k0 x.1 x.2) (funext fun out' => funext fun i' => funext fun free' => tern_Bits.l0.eq n free' n out' i'))
theorem tern_Bits.sound (n : Nat) : SoundE prog 21 (tern_Bits.e n) :=
  soundE_of_run (C := tern_Bits.C n) (n := n) (tern_Bits.ok n) func21 (by kernel_rfl) (by kernel_rfl) (fun x r h => (tern_Bits.eq n x).trans h)

def ref02_Bit.rs : List RTy := [.data TWide]
def ref02_Bit.ps : List PTy := [.data (.int .i64)]
noncomputable def ref02_Bit.e (n : Nat) : Ent := ⟨ref02_Bit.ps, ref02_Bit.rs, fun x => ref02_Bit x⟩
noncomputable def ref02_Bit.C (n : Nat) : Ctx := { tab := tab, fts := fts, Γ := lookO [], Γc := lookO [], Γs := lookO [], ntmps := f67.ntmps, keep := Vi.look ([], []) [], pins := [] }
theorem ref02_Bit.ok (n : Nat) : CtxOk prog (ref02_Bit.C n) := ⟨types, ftsOk_, fns_nil, cls_nil, sqs_nil, mixed⟩
theorem ref02_Bit.eq (n : Nat) (x : pdens ref02_Bit.ps) : Vi.run (ref02_Bit.C n) n f67 ref02_Bit.ps ref02_Bit.rs x = ref02_Bit x := by kernel_rfl
theorem ref02_Bit.sound (n : Nat) : SoundE prog 67 (ref02_Bit.e n) :=
  soundE_of_run (C := ref02_Bit.C n) (n := n) (ref02_Bit.ok n) func67 (by kernel_rfl) (by kernel_rfl) (fun x r h => (ref02_Bit.eq n x).trans h)

def ref02_Has.rs : List RTy := [.data .bool]
def ref02_Has.ps : List PTy := [.data TWide, .data (.int .i64)]
noncomputable def ref02_Has.e (n : Nat) : Ent := ⟨ref02_Has.ps, ref02_Has.rs, fun x => ref02_Has x.1 x.2⟩
noncomputable def ref02_Has.C (n : Nat) : Ctx := { tab := tab, fts := fts, Γ := lookO [(58, ref02_And.e n), (59, ref02_Zero.e n), (67, ref02_Bit.e n)], Γc := lookO [], Γs := lookO [], ntmps := f66.ntmps, keep := Vi.look ([], []) [], pins := [] }
theorem ref02_Has.ok (n : Nat) : CtxOk prog (ref02_Has.C n) := ⟨types, ftsOk_, (fns_cons (ref02_And.sound n) (fns_cons (ref02_Zero.sound n) (fns_cons (ref02_Bit.sound n) fns_nil))), cls_nil, sqs_nil, mixed⟩
theorem ref02_Has.eq (n : Nat) (x : pdens ref02_Has.ps) : Vi.run (ref02_Has.C n) n f66 ref02_Has.ps ref02_Has.rs x = ref02_Has x.1 x.2 := by kernel_rfl
theorem ref02_Has.sound (n : Nat) : SoundE prog 66 (ref02_Has.e n) :=
  soundE_of_run (C := ref02_Has.C n) (n := n) (ref02_Has.ok n) func66 (by kernel_rfl) (by kernel_rfl) (fun x r h => (ref02_Has.eq n x).trans h)

def ref05_Bits.rs : List RTy := [.fresh (.int .i64)]
def ref05_Bits.ps : List PTy := [.data TTern, .data TTern]
noncomputable def ref05_Bits.e (n : Nat) : Ent := ⟨ref05_Bits.ps, ref05_Bits.rs, fun x => ref05_Bits n x.1 x.2⟩
noncomputable def ref05_Bits.C (n : Nat) : Ctx := { tab := tab, fts := fts, Γ := lookO [(66, ref02_Has.e n)], Γc := lookO [], Γs := lookO [], ntmps := f22.ntmps, keep := Vi.look ([], []) [(3, ([2, 3, 5, 6], [2, 3]))], pins := [] }
theorem ref05_Bits.ok (n : Nat) : CtxOk prog (ref05_Bits.C n) := ⟨types, ftsOk_, (fns_cons (ref02_Has.sound n) fns_nil), cls_nil, sqs_nil, mixed⟩
noncomputable def ref05_Bits.code : Code := bodyOf f22
theorem ref05_Bits.l0.step (n : Nat) (m0 : Nat) (out : (List Int)) (i : Int) (a_1 : Tern) (b_1 : Tern) : it (EmR.no _) (ref05_Bits.C n) n (Code.go ref05_Bits.code [1, 1, 0, 1, 0, 0]) (blockK 0 (seqK (EmR.no _) (ref05_Bits.C n) n (Code.go ref05_Bits.code [1, 1, 1]) (bodyK (ref05_Bits.C n) f22 ref05_Bits.rs))) (m0 + 1) ⟨[(2, .ptr 2 0 TTern []), (3, .ptr 3 0 TTern []), (5, .lst (.tip 100005 0) (.int .i64) out), (6, .dat (.int .i64) i)], [(100005, .tok 0), (2, .box 0 false (.dat TTern a_1)), (3, .box 0 false (.dat TTern b_1))]⟩ = ref05_Bits.s0 n (fun (out' : (List Int)) (i' : Int) => it (EmR.no _) (ref05_Bits.C n) n (Code.go ref05_Bits.code [1, 1, 0, 1, 0, 0]) (blockK 0 (seqK (EmR.no _) (ref05_Bits.C n) n (Code.go ref05_Bits.code [1, 1, 1]) (bodyK (ref05_Bits.C n) f22 ref05_Bits.rs))) m0 ⟨[(2, .ptr 2 0 TTern []), (3, .ptr 3 0 TTern []), (5, .lst (.tip 100005 0) (.int .i64) (out')), (6, .dat (.int .i64) (i'))], [(100005, .tok 0), (2, .box 0 false (.dat TTern a_1)), (3, .box 0 false (.dat TTern b_1))]⟩) out i a_1 b_1 := by kernel_rfl
theorem ref05_Bits.l0.eq (n : Nat) (a_1 : Tern) (b_1 : Tern) : ∀ (m0 : Nat) (out : (List Int)) (i : Int), it (EmR.no _) (ref05_Bits.C n) n (Code.go ref05_Bits.code [1, 1, 0, 1, 0, 0]) (blockK 0 (seqK (EmR.no _) (ref05_Bits.C n) n (Code.go ref05_Bits.code [1, 1, 1]) (bodyK (ref05_Bits.C n) f22 ref05_Bits.rs))) m0 ⟨[(2, .ptr 2 0 TTern []), (3, .ptr 3 0 TTern []), (5, .lst (.tip 100005 0) (.int .i64) out), (6, .dat (.int .i64) i)], [(100005, .tok 0), (2, .box 0 false (.dat TTern a_1)), (3, .box 0 false (.dat TTern b_1))]⟩ = ref05_Bits.l0 n a_1 b_1 m0 out i
  | 0, _, _ => rfl
  | m0 + 1, out, i =>
    (ref05_Bits.l0.step n m0 out i a_1 b_1).trans (congr1 (fun k0 => ref05_Bits.s0 n k0 out i a_1 b_1) (funext fun out' => funext fun i' => ref05_Bits.l0.eq n a_1 b_1 m0 out' i'))
theorem ref05_Bits.run0 (n : Nat) (x : pdens ref05_Bits.ps) : Vi.run (ref05_Bits.C n) n f22 ref05_Bits.ps ref05_Bits.rs x = ref05_Bits.s n (fun (out' : (List Int)) (i' : Int) (a_1' : Tern) (b_1' : Tern) => it (EmR.no _) (ref05_Bits.C n) n (Code.go ref05_Bits.code [1, 1, 0, 1, 0, 0]) (blockK 0 (seqK (EmR.no _) (ref05_Bits.C n) n (Code.go ref05_Bits.code [1, 1, 1]) (bodyK (ref05_Bits.C n) f22 ref05_Bits.rs))) n ⟨[(2, .ptr 2 0 TTern []), (3, .ptr 3 0 TTern []), (5, .lst (.tip 100005 0) (.int .i64) (out')), (6, .dat (.int .i64) (i'))], [(100005, .tok 0), (2, .box 0 false (.dat TTern (a_1'))), (3, .box 0 false (.dat TTern (b_1')))]⟩) x.1 x.2 := by kernel_rfl
theorem ref05_Bits.eq (n : Nat) (x : pdens ref05_Bits.ps) : Vi.run (ref05_Bits.C n) n f22 ref05_Bits.ps ref05_Bits.rs x = ref05_Bits n x.1 x.2 :=
  (ref05_Bits.run0 n x).trans (congr1 (fun k0 => ref05_Bits.s n k0 x.1 x.2) (funext fun out' => funext fun i' => funext fun a_1' => funext fun b_1' => ref05_Bits.l0.eq n a_1' b_1' n out' i'))
theorem ref05_Bits.sound (n : Nat) : SoundE prog 22 (ref05_Bits.e n) :=
  soundE_of_run (C := ref05_Bits.C n) (n := n) (ref05_Bits.ok n) func22 (by kernel_rfl) (by kernel_rfl) (fun x r h => (ref05_Bits.eq n x).trans h)

def slices_Equal_int.rs : List RTy := [.data .bool]
def slices_Equal_int.ps : List PTy := [.data (.slc (.int .i64)), .data (.slc (.int .i64))]
noncomputable def slices_Equal_int.e (n : Nat) : Ent := ⟨slices_Equal_int.ps, slices_Equal_int.rs, fun x => slices_Equal_int n x.1 x.2⟩
noncomputable def slices_Equal_int.C (n : Nat) : Ctx := { tab := tab, fts := fts, Γ := lookO [], Γc := lookO [], Γs := lookO [], ntmps := f20.ntmps, keep := Vi.look ([], []) [(4, ([0, 1, 12, 13], []))], pins := [] }
theorem slices_Equal_int.ok (n : Nat) : CtxOk prog (slices_Equal_int.C n) := ⟨types, ftsOk_, fns_nil, cls_nil, sqs_nil, mixed⟩
noncomputable def slices_Equal_int.code : Code := bodyOf f20
theorem slices_Equal_int.l0.step (n : Nat) (m0 : Nat) (s1_1 : (List Int)) (s2_1 : (List Int)) (v12 : Int) (v13 : Int) : it (EmR.no _) (slices_Equal_int.C n) n (Code.go slices_Equal_int.code [1, 1, 0, 1, 0, 0]) (blockK 0 (seqK (EmR.no _) (slices_Equal_int.C n) n (Code.go slices_Equal_int.code [1, 1, 1]) (bodyK (slices_Equal_int.C n) f20 slices_Equal_int.rs))) (m0 + 1) ⟨[(0, .dat (.slc (.int .i64)) s1_1), (1, .dat (.slc (.int .i64)) s2_1), (12, .dat (.int .i64) v12), (13, .dat (.int .i64) v13)], []⟩ = slices_Equal_int.s0 n (fun (v13' : Int) => it (EmR.no _) (slices_Equal_int.C n) n (Code.go slices_Equal_int.code [1, 1, 0, 1, 0, 0]) (blockK 0 (seqK (EmR.no _) (slices_Equal_int.C n) n (Code.go slices_Equal_int.code [1, 1, 1]) (bodyK (slices_Equal_int.C n) f20 slices_Equal_int.rs))) m0 ⟨[(0, .dat (.slc (.int .i64)) s1_1), (1, .dat (.slc (.int .i64)) s2_1), (12, .dat (.int .i64) v12), (13, .dat (.int .i64) (v13'))], []⟩) s1_1 s2_1 v12 v13 := by kernel_rfl
theorem slices_Equal_int.l0.eq (n : Nat) (s1_1 : (List Int)) (s2_1 : (List Int)) (v12 : Int) : ∀ (m0 : Nat) (v13 : Int), it (EmR.no _) (slices_Equal_int.C n) n (Code.go slices_Equal_int.code [1, 1, 0, 1, 0, 0]) (blockK 0 (seqK (EmR.no _) (slices_Equal_int.C n) n (Code.go slices_Equal_int.code [1, 1, 1]) (bodyK (slices_Equal_int.C n) f20 slices_Equal_int.rs))) m0 ⟨[(0, .dat (.slc (.int .i64)) s1_1), (1, .dat (.slc (.int .i64)) s2_1), (12, .dat (.int .i64) v12), (13, .dat (.int .i64) v13)], []⟩ = slices_Equal_int.l0 n s1_1 s2_1 v12 m0 v13
  | 0, _ => rfl
  | m0 + 1, v13 =>
    (slices_Equal_int.l0.step n m0 s1_1 s2_1 v12 v13).trans (congr1 (fun k0 => slices_Equal_int.s0 n k0 s1_1 s2_1 v12 v13) (funext fun v13' => slices_Equal_int.l0.eq n s1_1 s2_1 v12 m0 v13'))
theorem slices_Equal_int.run0 (n : Nat) (x : pdens slices_Equal_int.ps) : Vi.run (slices_Equal_int.C n) n f20 slices_Equal_int.ps slices_Equal_int.rs x = slices_Equal_int.s n (fun (s1_1' : (List Int)) (s2_1' : (List Int)) (v12' : Int) (v13' : Int) => it (EmR.no _) (slices_Equal_int.C n) n (Code.go slices_Equal_int.code [1, 1, 0, 1, 0, 0]) (blockK 0 (seqK (EmR.no _) (slices_Equal_int.C n) n (Code.go slices_Equal_int.code [1, 1, 1]) (bodyK (slices_Equal_int.C n) f20 slices_Equal_int.rs))) n ⟨[(0, .dat (.slc (.int .i64)) (s1_1')), (1, .dat (.slc (.int .i64)) (s2_1')), (12, .dat (.int .i64) (v12')), (13, .dat (.int .i64) (v13'))], []⟩) x.1 x.2 := by kernel_rfl
theorem slices_Equal_int.eq (n : Nat) (x : pdens slices_Equal_int.ps) : Vi.run (slices_Equal_int.C n) n f20 slices_Equal_int.ps slices_Equal_int.rs x = slices_Equal_int n x.1 x.2 :=
  (slices_Equal_int.run0 n x).trans (congr1 (fun k0 => slices_Equal_int.s n k0 x.1 x.2) (funext fun s1_1' => funext fun s2_1' => funext fun v12' => funext fun v13' => slices_Equal_int.l0.eq n s1_1' s2_1' v12' n v13'))
theorem slices_Equal_int.sound (n : Nat) : SoundE prog 20 (slices_Equal_int.e n) :=
  soundE_of_run (C := slices_Equal_int.C n) (n := n) (slices_Equal_int.ok n) func20 (by kernel_rfl) (by kernel_rfl) (fun x r h => (slices_Equal_int.eq n x).trans h)

def tern_Fix.rs : List RTy := [.data TTern]
def tern_Fix.ps : List PTy := [.data TTern, .data (.int .i64), .data .bool]
noncomputable def tern_Fix.e (n : Nat) : Ent := ⟨tern_Fix.ps, tern_Fix.rs, fun x => tern_Fix x.1 x.2.1 x.2.2⟩
noncomputable def tern_Fix.C (n : Nat) : Ctx := { tab := tab, fts := fts, Γ := lookO [(23, tern_Clean.e n), (29, wide_Bit.e n), (48, wide_Or.e n), (50, wide_Less.e n)], Γc := lookO [], Γs := lookO [], ntmps := f25.ntmps, keep := Vi.look ([], []) [], pins := [] }
theorem tern_Fix.ok (n : Nat) : CtxOk prog (tern_Fix.C n) := ⟨types, ftsOk_, (fns_cons (tern_Clean.sound n) (fns_cons (wide_Bit.sound n) (fns_cons (wide_Or.sound n) (fns_cons (wide_Less.sound n) fns_nil)))), cls_nil, sqs_nil, mixed⟩
theorem tern_Fix.eq (n : Nat) (x : pdens tern_Fix.ps) : Vi.run (tern_Fix.C n) n f25 tern_Fix.ps tern_Fix.rs x = tern_Fix x.1 x.2.1 x.2.2 := by kernel_rfl
theorem tern_Fix.sound (n : Nat) : SoundE prog 25 (tern_Fix.e n) :=
  soundE_of_run (C := tern_Fix.C n) (n := n) (tern_Fix.ok n) func25 (by kernel_rfl) (by kernel_rfl) (fun x r h => (tern_Fix.eq n x).trans h)

def ref05_Fix.rs : List RTy := [.data TTern]
def ref05_Fix.ps : List PTy := [.data TTern, .data (.int .i64), .data .bool]
noncomputable def ref05_Fix.e (n : Nat) : Ent := ⟨ref05_Fix.ps, ref05_Fix.rs, fun x => ref05_Fix x.1 x.2.1 x.2.2⟩
noncomputable def ref05_Fix.C (n : Nat) : Ctx := { tab := tab, fts := fts, Γ := lookO [(24, ref05_Clean.e n), (61, ref02_Or.e n), (64, ref02_Less.e n), (67, ref02_Bit.e n)], Γc := lookO [], Γs := lookO [], ntmps := f26.ntmps, keep := Vi.look ([], []) [], pins := [] }
theorem ref05_Fix.ok (n : Nat) : CtxOk prog (ref05_Fix.C n) := ⟨types, ftsOk_, (fns_cons (ref05_Clean.sound n) (fns_cons (ref02_Or.sound n) (fns_cons (ref02_Less.sound n) (fns_cons (ref02_Bit.sound n) fns_nil)))), cls_nil, sqs_nil, mixed⟩
theorem ref05_Fix.eq (n : Nat) (x : pdens ref05_Fix.ps) : Vi.run (ref05_Fix.C n) n f26 ref05_Fix.ps ref05_Fix.rs x = ref05_Fix x.1 x.2.1 x.2.2 := by kernel_rfl
theorem ref05_Fix.sound (n : Nat) : SoundE prog 26 (ref05_Fix.e n) :=
  soundE_of_run (C := ref05_Fix.C n) (n := n) (ref05_Fix.ok n) func26 (by kernel_rfl) (by kernel_rfl) (fun x r h => (ref05_Fix.eq n x).trans h)

def law05_awake.rs : List RTy := [.data .bool]
def law05_awake.ps : List PTy := []
noncomputable def law05_awake.e (n : Nat) : Ent := ⟨law05_awake.ps, law05_awake.rs, fun x => law05_awake n⟩
noncomputable def law05_awake.C (n : Nat) : Ctx := { tab := tab, fts := fts, Γ := lookO [(14, tern_Meet.e n), (16, tern_Has.e n), (18, tern_Within.e n), (20, slices_Equal_int.e n), (21, tern_Bits.e n), (23, tern_Clean.e n), (25, tern_Fix.e n)], Γc := lookO [], Γs := lookO [], ntmps := f27.ntmps, keep := Vi.look ([], []) [], pins := [] }
theorem law05_awake.ok (n : Nat) : CtxOk prog (law05_awake.C n) := ⟨types, ftsOk_, (fns_cons (tern_Meet.sound n) (fns_cons (tern_Has.sound n) (fns_cons (tern_Within.sound n) (fns_cons (slices_Equal_int.sound n) (fns_cons (tern_Bits.sound n) (fns_cons (tern_Clean.sound n) (fns_cons (tern_Fix.sound n) fns_nil))))))), cls_nil, sqs_nil, mixed⟩
theorem law05_awake.eq (n : Nat) (x : pdens law05_awake.ps) : Vi.run (law05_awake.C n) n f27 law05_awake.ps law05_awake.rs x = law05_awake n := by kernel_rfl
theorem law05_awake.sound (n : Nat) : SoundE prog 27 (law05_awake.e n) :=
  soundE_of_run (C := law05_awake.C n) (n := n) (law05_awake.ok n) func27 (by kernel_rfl) (by kernel_rfl) (fun x r h => (law05_awake.eq n x).trans h)

def law05_TernTells.rs : List RTy := [.data .bool]
def law05_TernTells.ps : List PTy := [.data TTern, .data TTern, .data TWide, .data (.int .i64), .data .bool]
noncomputable def law05_TernTells.e (n : Nat) : Ent := ⟨law05_TernTells.ps, law05_TernTells.rs, fun x => law05_TernTells n x.1 x.2.1 x.2.2.1 x.2.2.2.1 x.2.2.2.2⟩
noncomputable def law05_TernTells.C (n : Nat) : Ctx := { tab := tab, fts := fts, Γ := lookO [(14, tern_Meet.e n), (15, ref05_Meet.e n), (16, tern_Has.e n), (17, ref05_Has.e n), (18, tern_Within.e n), (19, ref05_Within.e n), (20, slices_Equal_int.e n), (21, tern_Bits.e n), (22, ref05_Bits.e n), (23, tern_Clean.e n), (24, ref05_Clean.e n), (25, tern_Fix.e n), (26, ref05_Fix.e n), (27, law05_awake.e n)], Γc := lookO [], Γs := lookO [], ntmps := f3.ntmps, keep := Vi.look ([], []) [], pins := [] }
theorem law05_TernTells.ok (n : Nat) : CtxOk prog (law05_TernTells.C n) := ⟨types, ftsOk_, (fns_cons (tern_Meet.sound n) (fns_cons (ref05_Meet.sound n) (fns_cons (tern_Has.sound n) (fns_cons (ref05_Has.sound n) (fns_cons (tern_Within.sound n) (fns_cons (ref05_Within.sound n) (fns_cons (slices_Equal_int.sound n) (fns_cons (tern_Bits.sound n) (fns_cons (ref05_Bits.sound n) (fns_cons (tern_Clean.sound n) (fns_cons (ref05_Clean.sound n) (fns_cons (tern_Fix.sound n) (fns_cons (ref05_Fix.sound n) (fns_cons (law05_awake.sound n) fns_nil)))))))))))))), cls_nil, sqs_nil, mixed⟩
theorem law05_TernTells.eq (n : Nat) (x : pdens law05_TernTells.ps) : Vi.run (law05_TernTells.C n) n f3 law05_TernTells.ps law05_TernTells.rs x = law05_TernTells n x.1 x.2.1 x.2.2.1 x.2.2.2.1 x.2.2.2.2 := by kernel_rfl
theorem law05_TernTells.sound (n : Nat) : SoundE prog 3 (law05_TernTells.e n) :=
  soundE_of_run (C := law05_TernTells.C n) (n := n) (law05_TernTells.ok n) func3 (by kernel_rfl) (by kernel_rfl) (fun x r h => (law05_TernTells.eq n x).trans h)
def law05_TernTells.g (n : Nat) (x : pdens (law05_TernTells.τs.map PTy.data)) : Option Bool := law05_TernTells n x.1 x.2.1 x.2.2.1 x.2.2.2.1 x.2.2.2.2
theorem law05_TernTells.soundN (n : Nat) : SoundE prog 3 ⟨law05_TernTells.τs.map PTy.data, [.data .bool], law05_TernTells.g n⟩ := law05_TernTells.sound n

def law05_TernMeet.rs : List RTy := [.data .bool]
def law05_TernMeet.ps : List PTy := [.data TTern, .data TTern, .data TWide]
noncomputable def law05_TernMeet.e (n : Nat) : Ent := ⟨law05_TernMeet.ps, law05_TernMeet.rs, fun x => law05_TernMeet n x.1 x.2.1 x.2.2⟩
noncomputable def law05_TernMeet.C (n : Nat) : Ctx := { tab := tab, fts := fts, Γ := lookO [(14, tern_Meet.e n), (16, tern_Has.e n), (27, law05_awake.e n)], Γc := lookO [], Γs := lookO [], ntmps := f4.ntmps, keep := Vi.look ([], []) [], pins := [] }
theorem law05_TernMeet.ok (n : Nat) : CtxOk prog (law05_TernMeet.C n) := ⟨types, ftsOk_, (fns_cons (tern_Meet.sound n) (fns_cons (tern_Has.sound n) (fns_cons (law05_awake.sound n) fns_nil))), cls_nil, sqs_nil, mixed⟩
theorem law05_TernMeet.eq (n : Nat) (x : pdens law05_TernMeet.ps) : Vi.run (law05_TernMeet.C n) n f4 law05_TernMeet.ps law05_TernMeet.rs x = law05_TernMeet n x.1 x.2.1 x.2.2 := by kernel_rfl
theorem law05_TernMeet.sound (n : Nat) : SoundE prog 4 (law05_TernMeet.e n) :=
  soundE_of_run (C := law05_TernMeet.C n) (n := n) (law05_TernMeet.ok n) func4 (by kernel_rfl) (by kernel_rfl) (fun x r h => (law05_TernMeet.eq n x).trans h)
def law05_TernMeet.g (n : Nat) (x : pdens (law05_TernMeet.τs.map PTy.data)) : Option Bool := law05_TernMeet n x.1 x.2.1 x.2.2
theorem law05_TernMeet.soundN (n : Nat) : SoundE prog 4 ⟨law05_TernMeet.τs.map PTy.data, [.data .bool], law05_TernMeet.g n⟩ := law05_TernMeet.sound n

def law05_TernWithin.rs : List RTy := [.data .bool]
def law05_TernWithin.ps : List PTy := [.data TTern, .data TTern, .data TWide]
noncomputable def law05_TernWithin.e (n : Nat) : Ent := ⟨law05_TernWithin.ps, law05_TernWithin.rs, fun x => law05_TernWithin n x.1 x.2.1 x.2.2⟩
noncomputable def law05_TernWithin.C (n : Nat) : Ctx := { tab := tab, fts := fts, Γ := lookO [(16, tern_Has.e n), (18, tern_Within.e n), (21, tern_Bits.e n), (23, tern_Clean.e n), (27, law05_awake.e n), (28, wide_Xor.e n), (29, wide_Bit.e n)], Γc := lookO [], Γs := lookO [], ntmps := f5.ntmps, keep := Vi.look ([], []) [], pins := [] }
theorem law05_TernWithin.ok (n : Nat) : CtxOk prog (law05_TernWithin.C n) := ⟨types, ftsOk_, (fns_cons (tern_Has.sound n) (fns_cons (tern_Within.sound n) (fns_cons (tern_Bits.sound n) (fns_cons (tern_Clean.sound n) (fns_cons (law05_awake.sound n) (fns_cons (wide_Xor.sound n) (fns_cons (wide_Bit.sound n) fns_nil))))))), cls_nil, sqs_nil, mixed⟩
theorem law05_TernWithin.eq (n : Nat) (x : pdens law05_TernWithin.ps) : Vi.run (law05_TernWithin.C n) n f5 law05_TernWithin.ps law05_TernWithin.rs x = law05_TernWithin n x.1 x.2.1 x.2.2 := by kernel_rfl
theorem law05_TernWithin.sound (n : Nat) : SoundE prog 5 (law05_TernWithin.e n) :=
  soundE_of_run (C := law05_TernWithin.C n) (n := n) (law05_TernWithin.ok n) func5 (by kernel_rfl) (by kernel_rfl) (fun x r h => (law05_TernWithin.eq n x).trans h)
def law05_TernWithin.g (n : Nat) (x : pdens (law05_TernWithin.τs.map PTy.data)) : Option Bool := law05_TernWithin n x.1 x.2.1 x.2.2
theorem law05_TernWithin.soundN (n : Nat) : SoundE prog 5 ⟨law05_TernWithin.τs.map PTy.data, [.data .bool], law05_TernWithin.g n⟩ := law05_TernWithin.sound n

def law05_TernFix.rs : List RTy := [.data .bool]
def law05_TernFix.ps : List PTy := [.data TTern, .data (.int .u8), .data TWide]
noncomputable def law05_TernFix.e (n : Nat) : Ent := ⟨law05_TernFix.ps, law05_TernFix.rs, fun x => law05_TernFix n x.1 x.2.1 x.2.2⟩
noncomputable def law05_TernFix.C (n : Nat) : Ctx := { tab := tab, fts := fts, Γ := lookO [(16, tern_Has.e n), (25, tern_Fix.e n), (27, law05_awake.e n), (30, wide_Has.e n)], Γc := lookO [], Γs := lookO [], ntmps := f6.ntmps, keep := Vi.look ([], []) [], pins := [] }
theorem law05_TernFix.ok (n : Nat) : CtxOk prog (law05_TernFix.C n) := ⟨types, ftsOk_, (fns_cons (tern_Has.sound n) (fns_cons (tern_Fix.sound n) (fns_cons (law05_awake.sound n) (fns_cons (wide_Has.sound n) fns_nil)))), cls_nil, sqs_nil, mixed⟩
theorem law05_TernFix.eq (n : Nat) (x : pdens law05_TernFix.ps) : Vi.run (law05_TernFix.C n) n f6 law05_TernFix.ps law05_TernFix.rs x = law05_TernFix n x.1 x.2.1 x.2.2 := by kernel_rfl
theorem law05_TernFix.sound (n : Nat) : SoundE prog 6 (law05_TernFix.e n) :=
  soundE_of_run (C := law05_TernFix.C n) (n := n) (law05_TernFix.ok n) func6 (by kernel_rfl) (by kernel_rfl) (fun x r h => (law05_TernFix.eq n x).trans h)
def law05_TernFix.g (n : Nat) (x : pdens (law05_TernFix.τs.map PTy.data)) : Option Bool := law05_TernFix n x.1 x.2.1 x.2.2
theorem law05_TernFix.soundN (n : Nat) : SoundE prog 6 ⟨law05_TernFix.τs.map PTy.data, [.data .bool], law05_TernFix.g n⟩ := law05_TernFix.sound n

def cube_Meet_1.rs : List Ty := [TTern, .bool]
def cube_Meet_1.ps : List Ty := [(.int .i64)]
def cube_Meet_1.caps : List PTy := [.cptr TCube, .cptr TCube]
noncomputable def cube_Meet_1.e (n : Nat) : Cl := ⟨cube_Meet_1.ps, cube_Meet_1.caps, cube_Meet_1.rs, fun x c => cube_Meet_1 x c.1 c.2⟩
noncomputable def cube_Meet_1.C (n : Nat) : Ctx := { tab := tab, fts := fts, Γ := lookO [(14, tern_Meet.e n)], Γc := lookO [], Γs := lookO [], ntmps := f69.ntmps, keep := Vi.look ([], []) [], pins := [] }
theorem cube_Meet_1.ok (n : Nat) : CtxOk prog (cube_Meet_1.C n) := ⟨types, ftsOk_, (fns_cons (tern_Meet.sound n) fns_nil), cls_nil, sqs_nil, mixed⟩
theorem cube_Meet_1.eq (n : Nat) (x : dens cube_Meet_1.ps) (c : pdens cube_Meet_1.caps) : Vi.runC (cube_Meet_1.C n) n f69 cube_Meet_1.ps cube_Meet_1.caps cube_Meet_1.rs x c = cube_Meet_1 x c.1 c.2 := by kernel_rfl
theorem cube_Meet_1.sound (n : Nat) : SoundC prog 69 (cube_Meet_1.e n) :=
  soundC_of_run (C := cube_Meet_1.C n) (n := n) (cube_Meet_1.ok n) func69 (by kernel_rfl) (by kernel_rfl) (fun x c r h => (cube_Meet_1.eq n x c).trans h)

def cube_each.rs : List RTy := [.data TCube, .data .bool]
def cube_each.ps : List PTy := [.fnp [(.int .i64)] [TTern, .bool]]
noncomputable def cube_each.e (n : Nat) : Ent := ⟨cube_each.ps, cube_each.rs, fun x => cube_each n x⟩
noncomputable def cube_each.C (n : Nat) : Ctx := { tab := tab, fts := fts, Γ := lookO [], Γc := lookO [], Γs := lookO [], ntmps := f68.ntmps, keep := Vi.look ([], []) [(3, ([0, 2, 4, 8], [2, 4]))], pins := [] }
theorem cube_each.ok (n : Nat) : CtxOk prog (cube_each.C n) := ⟨types, ftsOk_, fns_nil, cls_nil, sqs_nil, mixed⟩
noncomputable def cube_each.code : Code := bodyOf f68
theorem cube_each.l0.step (n : Nat) (m0 : Nat) (f_1 : (Int → Option (Tern × Bool))) (v8 : Int) (v2 : Cube) (c : Cube) : it (EmR.no _) (cube_each.C n) n (Code.go cube_each.code [1, 1, 0, 1, 0, 0]) (blockK 0 (seqK (EmR.no _) (cube_each.C n) n (Code.go cube_each.code [1, 1, 1]) (bodyK (cube_each.C n) f68 cube_each.rs))) (m0 + 1) ⟨[(0, .fn [(.int .i64)] [TTern, .bool] f_1), (2, .ptr 2 0 TCube []), (4, .ptr 4 0 TCube []), (8, .dat (.int .i64) v8)], [(2, .box 0 false (.dat TCube v2)), (4, .box 0 false (.dat TCube c))]⟩ = cube_each.s0 n (fun (v8' : Int) (c' : Cube) => it (EmR.no _) (cube_each.C n) n (Code.go cube_each.code [1, 1, 0, 1, 0, 0]) (blockK 0 (seqK (EmR.no _) (cube_each.C n) n (Code.go cube_each.code [1, 1, 1]) (bodyK (cube_each.C n) f68 cube_each.rs))) m0 ⟨[(0, .fn [(.int .i64)] [TTern, .bool] f_1), (2, .ptr 2 0 TCube []), (4, .ptr 4 0 TCube []), (8, .dat (.int .i64) (v8'))], [(2, .box 0 false (.dat TCube v2)), (4, .box 0 false (.dat TCube (c')))]⟩) f_1 v8 v2 c := by kernel_rfl
theorem cube_each.l0.eq (n : Nat) (f_1 : (Int → Option (Tern × Bool))) (v2 : Cube) : ∀ (m0 : Nat) (v8 : Int) (c : Cube), it (EmR.no _) (cube_each.C n) n (Code.go cube_each.code [1, 1, 0, 1, 0, 0]) (blockK 0 (seqK (EmR.no _) (cube_each.C n) n (Code.go cube_each.code [1, 1, 1]) (bodyK (cube_each.C n) f68 cube_each.rs))) m0 ⟨[(0, .fn [(.int .i64)] [TTern, .bool] f_1), (2, .ptr 2 0 TCube []), (4, .ptr 4 0 TCube []), (8, .dat (.int .i64) v8)], [(2, .box 0 false (.dat TCube v2)), (4, .box 0 false (.dat TCube c))]⟩ = cube_each.l0 n f_1 v2 m0 v8 c
  | 0, _, _ => rfl
  | m0 + 1, v8, c =>
    (cube_each.l0.step n m0 f_1 v8 v2 c).trans (congr1 (fun k0 => cube_each.s0 n k0 f_1 v8 v2 c) (funext fun v8' => funext fun c' => cube_each.l0.eq n f_1 v2 m0 v8' c'))
theorem cube_each.run0 (n : Nat) (x : pdens cube_each.ps) : Vi.run (cube_each.C n) n f68 cube_each.ps cube_each.rs x = cube_each.s n (fun (f_1' : (Int → Option (Tern × Bool))) (v8' : Int) (v2' : Cube) (c' : Cube) => it (EmR.no _) (cube_each.C n) n (Code.go cube_each.code [1, 1, 0, 1, 0, 0]) (blockK 0 (seqK (EmR.no _) (cube_each.C n) n (Code.go cube_each.code [1, 1, 1]) (bodyK (cube_each.C n) f68 cube_each.rs))) n ⟨[(0, .fn [(.int .i64)] [TTern, .bool] (f_1')), (2, .ptr 2 0 TCube []), (4, .ptr 4 0 TCube []), (8, .dat (.int .i64) (v8'))], [(2, .box 0 false (.dat TCube (v2'))), (4, .box 0 false (.dat TCube (c')))]⟩) x := by kernel_rfl
theorem cube_each.eq (n : Nat) (x : pdens cube_each.ps) : Vi.run (cube_each.C n) n f68 cube_each.ps cube_each.rs x = cube_each n x :=
  (cube_each.run0 n x).trans (congr1 (fun k0 => cube_each.s n k0 x) (funext fun f_1' => funext fun v8' => funext fun v2' => funext fun c' => cube_each.l0.eq n f_1' v2' n v8' c'))
theorem cube_each.sound (n : Nat) : SoundE prog 68 (cube_each.e n) :=
  soundE_of_run (C := cube_each.C n) (n := n) (cube_each.ok n) func68 (by kernel_rfl) (by kernel_rfl) (fun x r h => (cube_each.eq n x).trans h)

def cube_Meet.rs : List RTy := [.data TCube, .data .bool]
def cube_Meet.ps : List PTy := [.data TCube, .data TCube]
noncomputable def cube_Meet.e (n : Nat) : Ent := ⟨cube_Meet.ps, cube_Meet.rs, fun x => cube_Meet n x.1 x.2⟩
noncomputable def cube_Meet.C (n : Nat) : Ctx := { tab := tab, fts := fts, Γ := lookO [(68, cube_each.e n)], Γc := lookO [(69, cube_Meet_1.e n)], Γs := lookO [], ntmps := f31.ntmps, keep := Vi.look ([], []) [], pins := [] }
theorem cube_Meet.ok (n : Nat) : CtxOk prog (cube_Meet.C n) := ⟨types, ftsOk_, (fns_cons (cube_each.sound n) fns_nil), (cls_cons (cube_Meet_1.sound n) cls_nil), sqs_nil, mixed⟩
theorem cube_Meet.eq (n : Nat) (x : pdens cube_Meet.ps) : Vi.run (cube_Meet.C n) n f31 cube_Meet.ps cube_Meet.rs x = cube_Meet n x.1 x.2 := by kernel_rfl
theorem cube_Meet.sound (n : Nat) : SoundE prog 31 (cube_Meet.e n) :=
  soundE_of_run (C := cube_Meet.C n) (n := n) (cube_Meet.ok n) func31 (by kernel_rfl) (by kernel_rfl) (fun x r h => (cube_Meet.eq n x).trans h)

def ref06_Meet.rs : List RTy := [.data TCube, .data .bool]
def ref06_Meet.ps : List PTy := [.data TCube, .data TCube]
noncomputable def ref06_Meet.e (n : Nat) : Ent := ⟨ref06_Meet.ps, ref06_Meet.rs, fun x => ref06_Meet n x.1 x.2⟩
noncomputable def ref06_Meet.C (n : Nat) : Ctx := { tab := tab, fts := fts, Γ := lookO [(15, ref05_Meet.e n)], Γc := lookO [], Γs := lookO [], ntmps := f32.ntmps, keep := Vi.look ([], []) [(3, ([2, 3, 4, 6, 7], [2, 3, 4, 6]))], pins := [] }
theorem ref06_Meet.ok (n : Nat) : CtxOk prog (ref06_Meet.C n) := ⟨types, ftsOk_, (fns_cons (ref05_Meet.sound n) fns_nil), cls_nil, sqs_nil, mixed⟩
noncomputable def ref06_Meet.code : Code := bodyOf f32
theorem ref06_Meet.l0.step (n : Nat) (m0 : Nat) (f : Int) (a_1 : Cube) (b_1 : Cube) (v4 : Cube) (c : Cube) : it (EmR.no _) (ref06_Meet.C n) n (Code.go ref06_Meet.code [1, 1, 0, 1, 0, 0]) (blockK 0 (seqK (EmR.no _) (ref06_Meet.C n) n (Code.go ref06_Meet.code [1, 1, 1]) (bodyK (ref06_Meet.C n) f32 ref06_Meet.rs))) (m0 + 1) ⟨[(2, .ptr 2 0 TCube []), (3, .ptr 3 0 TCube []), (4, .ptr 4 0 TCube []), (6, .ptr 6 0 TCube []), (7, .dat (.int .i64) f)], [(2, .box 0 false (.dat TCube a_1)), (3, .box 0 false (.dat TCube b_1)), (4, .box 0 false (.dat TCube v4)), (6, .box 0 false (.dat TCube c))]⟩ = ref06_Meet.s0 n (fun (f' : Int) (c' : Cube) => it (EmR.no _) (ref06_Meet.C n) n (Code.go ref06_Meet.code [1, 1, 0, 1, 0, 0]) (blockK 0 (seqK (EmR.no _) (ref06_Meet.C n) n (Code.go ref06_Meet.code [1, 1, 1]) (bodyK (ref06_Meet.C n) f32 ref06_Meet.rs))) m0 ⟨[(2, .ptr 2 0 TCube []), (3, .ptr 3 0 TCube []), (4, .ptr 4 0 TCube []), (6, .ptr 6 0 TCube []), (7, .dat (.int .i64) (f'))], [(2, .box 0 false (.dat TCube a_1)), (3, .box 0 false (.dat TCube b_1)), (4, .box 0 false (.dat TCube v4)), (6, .box 0 false (.dat TCube (c')))]⟩) f a_1 b_1 v4 c := by kernel_rfl
theorem ref06_Meet.l0.eq (n : Nat) (a_1 : Cube) (b_1 : Cube) (v4 : Cube) : ∀ (m0 : Nat) (f : Int) (c : Cube), it (EmR.no _) (ref06_Meet.C n) n (Code.go ref06_Meet.code [1, 1, 0, 1, 0, 0]) (blockK 0 (seqK (EmR.no _) (ref06_Meet.C n) n (Code.go ref06_Meet.code [1, 1, 1]) (bodyK (ref06_Meet.C n) f32 ref06_Meet.rs))) m0 ⟨[(2, .ptr 2 0 TCube []), (3, .ptr 3 0 TCube []), (4, .ptr 4 0 TCube []), (6, .ptr 6 0 TCube []), (7, .dat (.int .i64) f)], [(2, .box 0 false (.dat TCube a_1)), (3, .box 0 false (.dat TCube b_1)), (4, .box 0 false (.dat TCube v4)), (6, .box 0 false (.dat TCube c))]⟩ = ref06_Meet.l0 n a_1 b_1 v4 m0 f c
  | 0, _, _ => rfl
  | m0 + 1, f, c =>
    (ref06_Meet.l0.step n m0 f a_1 b_1 v4 c).trans (congr1 (fun k0 => ref06_Meet.s0 n k0 f a_1 b_1 v4 c) (funext fun f' => funext fun c' => ref06_Meet.l0.eq n a_1 b_1 v4 m0 f' c'))
theorem ref06_Meet.run0 (n : Nat) (x : pdens ref06_Meet.ps) : Vi.run (ref06_Meet.C n) n f32 ref06_Meet.ps ref06_Meet.rs x = ref06_Meet.s n (fun (f' : Int) (a_1' : Cube) (b_1' : Cube) (v4' : Cube) (c' : Cube) => it (EmR.no _) (ref06_Meet.C n) n (Code.go ref06_Meet.code [1, 1, 0, 1, 0, 0]) (blockK 0 (seqK (EmR.no _) (ref06_Meet.C n) n (Code.go ref06_Meet.code [1, 1, 1]) (bodyK (ref06_Meet.C n) f32 ref06_Meet.rs))) n ⟨[(2, .ptr 2 0 TCube []), (3, .ptr 3 0 TCube []), (4, .ptr 4 0 TCube []), (6, .ptr 6 0 TCube []), (7, .dat (.int .i64) (f'))], [(2, .box 0 false (.dat TCube (a_1'))), (3, .box 0 false (.dat TCube (b_1'))), (4, .box 0 false (.dat TCube (v4'))), (6, .box 0 false (.dat TCube (c')))]⟩) x.1 x.2 := by kernel_rfl
theorem ref06_Meet.eq (n : Nat) (x : pdens ref06_Meet.ps) : Vi.run (ref06_Meet.C n) n f32 ref06_Meet.ps ref06_Meet.rs x = ref06_Meet n x.1 x.2 :=
  (ref06_Meet.run0 n x).trans (congr1 (fun k0 => ref06_Meet.s n k0 x.1 x.2) (funext fun f' => funext fun a_1' => funext fun b_1' => funext fun v4' => funext fun c' => ref06_Meet.l0.eq n a_1' b_1' v4' n f' c'))
theorem ref06_Meet.sound (n : Nat) : SoundE prog 32 (ref06_Meet.e n) :=
  soundE_of_run (C := ref06_Meet.C n) (n := n) (ref06_Meet.ok n) func32 (by kernel_rfl) (by kernel_rfl) (fun x r h => (ref06_Meet.eq n x).trans h)

def cube_Has.rs : List RTy := [.data .bool]
def cube_Has.ps : List PTy := [.data TCube, .data THeader]
noncomputable def cube_Has.e (n : Nat) : Ent := ⟨cube_Has.ps, cube_Has.rs, fun x => cube_Has n x.1 x.2⟩
noncomputable def cube_Has.C (n : Nat) : Ctx := { tab := tab, fts := fts, Γ := lookO [(16, tern_Has.e n)], Γc := lookO [], Γs := lookO [], ntmps := f33.ntmps, keep := Vi.look ([], []) [(2, ([3, 7, 8], [3]))], pins := [] }
theorem cube_Has.ok (n : Nat) : CtxOk prog (cube_Has.C n) := ⟨types, ftsOk_, (fns_cons (tern_Has.sound n) fns_nil), cls_nil, sqs_nil, mixed⟩
noncomputable def cube_Has.code : Code := bodyOf f33
theorem cube_Has.l0.step (n : Nat) (m0 : Nat) (v7 : Cube) (v8 : Int) (h_1 : Header) : it (EmR.no _) (cube_Has.C n) n (Code.go cube_Has.code [1, 0, 1, 0, 0]) (blockK 0 (seqK (EmR.no _) (cube_Has.C n) n (Code.go cube_Has.code [1, 1]) (bodyK (cube_Has.C n) f33 cube_Has.rs))) (m0 + 1) ⟨[(3, .ptr 3 0 THeader []), (7, .dat TCube v7), (8, .dat (.int .i64) v8)], [(3, .box 0 false (.dat THeader h_1))]⟩ = cube_Has.s0 n (fun (v8' : Int) => it (EmR.no _) (cube_Has.C n) n (Code.go cube_Has.code [1, 0, 1, 0, 0]) (blockK 0 (seqK (EmR.no _) (cube_Has.C n) n (Code.go cube_Has.code [1, 1]) (bodyK (cube_Has.C n) f33 cube_Has.rs))) m0 ⟨[(3, .ptr 3 0 THeader []), (7, .dat TCube v7), (8, .dat (.int .i64) (v8'))], [(3, .box 0 false (.dat THeader h_1))]⟩) v7 v8 h_1 := by kernel_rfl
theorem cube_Has.l0.eq (n : Nat) (v7 : Cube) (h_1 : Header) : ∀ (m0 : Nat) (v8 : Int), it (EmR.no _) (cube_Has.C n) n (Code.go cube_Has.code [1, 0, 1, 0, 0]) (blockK 0 (seqK (EmR.no _) (cube_Has.C n) n (Code.go cube_Has.code [1, 1]) (bodyK (cube_Has.C n) f33 cube_Has.rs))) m0 ⟨[(3, .ptr 3 0 THeader []), (7, .dat TCube v7), (8, .dat (.int .i64) v8)], [(3, .box 0 false (.dat THeader h_1))]⟩ = cube_Has.l0 n v7 h_1 m0 v8
  | 0, _ => rfl
  | m0 + 1, v8 =>
    (cube_Has.l0.step n m0 v7 v8 h_1).trans (congr1 (fun k0 => cube_Has.s0 n k0 v7 v8 h_1) (funext fun v8' => cube_Has.l0.eq n v7 h_1 m0 v8'))
theorem cube_Has.run0 (n : Nat) (x : pdens cube_Has.ps) : Vi.run (cube_Has.C n) n f33 cube_Has.ps cube_Has.rs x = cube_Has.s n (fun (v7' : Cube) (v8' : Int) (h_1' : Header) => it (EmR.no _) (cube_Has.C n) n (Code.go cube_Has.code [1, 0, 1, 0, 0]) (blockK 0 (seqK (EmR.no _) (cube_Has.C n) n (Code.go cube_Has.code [1, 1]) (bodyK (cube_Has.C n) f33 cube_Has.rs))) n ⟨[(3, .ptr 3 0 THeader []), (7, .dat TCube (v7')), (8, .dat (.int .i64) (v8'))], [(3, .box 0 false (.dat THeader (h_1')))]⟩) x.1 x.2 := by kernel_rfl
theorem cube_Has.eq (n : Nat) (x : pdens cube_Has.ps) : Vi.run (cube_Has.C n) n f33 cube_Has.ps cube_Has.rs x = cube_Has n x.1 x.2 :=
  (cube_Has.run0 n x).trans (congr1 (fun k0 => cube_Has.s n k0 x.1 x.2) (funext fun v7' => funext fun v8' => funext fun h_1' => cube_Has.l0.eq n v7' h_1' n v8'))
theorem cube_Has.sound (n : Nat) : SoundE prog 33 (cube_Has.e n) :=
  soundE_of_run (C := cube_Has.C n) (n := n) (cube_Has.ok n) func33 (by kernel_rfl) (by kernel_rfl) (fun x r h => (cube_Has.eq n x).trans h)

def ref06_Has.rs : List RTy := [.data .bool]
def ref06_Has.ps : List PTy := [.data TCube, .data THeader]
noncomputable def ref06_Has.e (n : Nat) : Ent := ⟨ref06_Has.ps, ref06_Has.rs, fun x => ref06_Has n x.1 x.2⟩
noncomputable def ref06_Has.C (n : Nat) : Ctx := { tab := tab, fts := fts, Γ := lookO [(17, ref05_Has.e n)], Γc := lookO [], Γs := lookO [], ntmps := f34.ntmps, keep := Vi.look ([], []) [(2, ([2, 3, 5], [2, 3]))], pins := [] }
theorem ref06_Has.ok (n : Nat) : CtxOk prog (ref06_Has.C n) := ⟨types, ftsOk_, (fns_cons (ref05_Has.sound n) fns_nil), cls_nil, sqs_nil, mixed⟩
noncomputable def ref06_Has.code : Code := bodyOf f34
theorem ref06_Has.l0.step (n : Nat) (m0 : Nat) (f : Int) (c_1 : Cube) (h_1 : Header) : it (EmR.no _) (ref06_Has.C n) n (Code.go ref06_Has.code [1, 0, 1, 0, 0]) (blockK 0 (seqK (EmR.no _) (ref06_Has.C n) n (Code.go ref06_Has.code [1, 1]) (bodyK (ref06_Has.C n) f34 ref06_Has.rs))) (m0 + 1) ⟨[(2, .ptr 2 0 TCube []), (3, .ptr 3 0 THeader []), (5, .dat (.int .i64) f)], [(2, .box 0 false (.dat TCube c_1)), (3, .box 0 false (.dat THeader h_1))]⟩ = ref06_Has.s0 n (fun (f' : Int) => it (EmR.no _) (ref06_Has.C n) n (Code.go ref06_Has.code [1, 0, 1, 0, 0]) (blockK 0 (seqK (EmR.no _) (ref06_Has.C n) n (Code.go ref06_Has.code [1, 1]) (bodyK (ref06_Has.C n) f34 ref06_Has.rs))) m0 ⟨[(2, .ptr 2 0 TCube []), (3, .ptr 3 0 THeader []), (5, .dat (.int .i64) (f'))], [(2, .box 0 false (.dat TCube c_1)), (3, .box 0 false (.dat THeader h_1))]⟩) f c_1 h_1 := by kernel_rfl
theorem ref06_Has.l0.eq (n : Nat) (c_1 : Cube) (h_1 : Header) : ∀ (m0 : Nat) (f : Int), it (EmR.no _) (ref06_Has.C n) n (Code.go ref06_Has.code [1, 0, 1, 0, 0]) (blockK 0 (seqK (EmR.no _) (ref06_Has.C n) n (Code.go ref06_Has.code [1, 1]) (bodyK (ref06_Has.C n) f34 ref06_Has.rs))) m0 ⟨[(2, .ptr 2 0 TCube []), (3, .ptr 3 0 THeader []), (5, .dat (.int .i64) f)], [(2, .box 0 false (.dat TCube c_1)), (3, .box 0 false (.dat THeader h_1))]⟩ = ref06_Has.l0 n c_1 h_1 m0 f
  | 0, _ => rfl
  | m0 + 1, f =>
    (ref06_Has.l0.step n m0 f c_1 h_1).trans (congr1 (fun k0 => ref06_Has.s0 n k0 f c_1 h_1) (funext fun f' => ref06_Has.l0.eq n c_1 h_1 m0 f'))
theorem ref06_Has.run0 (n : Nat) (x : pdens ref06_Has.ps) : Vi.run (ref06_Has.C n) n f34 ref06_Has.ps ref06_Has.rs x = ref06_Has.s n (fun (f' : Int) (c_1' : Cube) (h_1' : Header) => it (EmR.no _) (ref06_Has.C n) n (Code.go ref06_Has.code [1, 0, 1, 0, 0]) (blockK 0 (seqK (EmR.no _) (ref06_Has.C n) n (Code.go ref06_Has.code [1, 1]) (bodyK (ref06_Has.C n) f34 ref06_Has.rs))) n ⟨[(2, .ptr 2 0 TCube []), (3, .ptr 3 0 THeader []), (5, .dat (.int .i64) (f'))], [(2, .box 0 false (.dat TCube (c_1'))), (3, .box 0 false (.dat THeader (h_1')))]⟩) x.1 x.2 := by kernel_rfl
theorem ref06_Has.eq (n : Nat) (x : pdens ref06_Has.ps) : Vi.run (ref06_Has.C n) n f34 ref06_Has.ps ref06_Has.rs x = ref06_Has n x.1 x.2 :=
  (ref06_Has.run0 n x).trans (congr1 (fun k0 => ref06_Has.s n k0 x.1 x.2) (funext fun f' => funext fun c_1' => funext fun h_1' => ref06_Has.l0.eq n c_1' h_1' n f'))
theorem ref06_Has.sound (n : Nat) : SoundE prog 34 (ref06_Has.e n) :=
  soundE_of_run (C := ref06_Has.C n) (n := n) (ref06_Has.ok n) func34 (by kernel_rfl) (by kernel_rfl) (fun x r h => (ref06_Has.eq n x).trans h)

def cube_Within.rs : List RTy := [.data .bool]
def cube_Within.ps : List PTy := [.data TCube, .data TCube]
noncomputable def cube_Within.e (n : Nat) : Ent := ⟨cube_Within.ps, cube_Within.rs, fun x => cube_Within n x.1 x.2⟩
noncomputable def cube_Within.C (n : Nat) : Ctx := { tab := tab, fts := fts, Γ := lookO [(18, tern_Within.e n)], Γc := lookO [], Γs := lookO [], ntmps := f35.ntmps, keep := Vi.look ([], []) [(2, ([3, 7, 8], [3]))], pins := [] }
theorem cube_Within.ok (n : Nat) : CtxOk prog (cube_Within.C n) := ⟨types, ftsOk_, (fns_cons (tern_Within.sound n) fns_nil), cls_nil, sqs_nil, mixed⟩
noncomputable def cube_Within.code : Code := bodyOf f35
theorem cube_Within.l0.step (n : Nat) (m0 : Nat) (v7 : Cube) (v8 : Int) (b_1 : Cube) : it (EmR.no _) (cube_Within.C n) n (Code.go cube_Within.code [1, 0, 1, 0, 0]) (blockK 0 (seqK (EmR.no _) (cube_Within.C n) n (Code.go cube_Within.code [1, 1]) (bodyK (cube_Within.C n) f35 cube_Within.rs))) (m0 + 1) ⟨[(3, .ptr 3 0 TCube []), (7, .dat TCube v7), (8, .dat (.int .i64) v8)], [(3, .box 0 false (.dat TCube b_1))]⟩ = cube_Within.s0 n (fun (v8' : Int) => it (EmR.no _) (cube_Within.C n) n (Code.go cube_Within.code [1, 0, 1, 0, 0]) (blockK 0 (seqK (EmR.no _) (cube_Within.C n) n (Code.go cube_Within.code [1, 1]) (bodyK (cube_Within.C n) f35 cube_Within.rs))) m0 ⟨[(3, .ptr 3 0 TCube []), (7, .dat TCube v7), (8, .dat (.int .i64) (v8'))], [(3, .box 0 false (.dat TCube b_1))]⟩) v7 v8 b_1 := by kernel_rfl
theorem cube_Within.l0.eq (n : Nat) (v7 : Cube) (b_1 : Cube) : ∀ (m0 : Nat) (v8 : Int), it (EmR.no _) (cube_Within.C n) n (Code.go cube_Within.code [1, 0, 1, 0, 0]) (blockK 0 (seqK (EmR.no _) (cube_Within.C n) n (Code.go cube_Within.code [1, 1]) (bodyK (cube_Within.C n) f35 cube_Within.rs))) m0 ⟨[(3, .ptr 3 0 TCube []), (7, .dat TCube v7), (8, .dat (.int .i64) v8)], [(3, .box 0 false (.dat TCube b_1))]⟩ = cube_Within.l0 n v7 b_1 m0 v8
  | 0, _ => rfl
  | m0 + 1, v8 =>
    (cube_Within.l0.step n m0 v7 v8 b_1).trans (congr1 (fun k0 => cube_Within.s0 n k0 v7 v8 b_1) (funext fun v8' => cube_Within.l0.eq n v7 b_1 m0 v8'))
theorem cube_Within.run0 (n : Nat) (x : pdens cube_Within.ps) : Vi.run (cube_Within.C n) n f35 cube_Within.ps cube_Within.rs x = cube_Within.s n (fun (v7' : Cube) (v8' : Int) (b_1' : Cube) => it (EmR.no _) (cube_Within.C n) n (Code.go cube_Within.code [1, 0, 1, 0, 0]) (blockK 0 (seqK (EmR.no _) (cube_Within.C n) n (Code.go cube_Within.code [1, 1]) (bodyK (cube_Within.C n) f35 cube_Within.rs))) n ⟨[(3, .ptr 3 0 TCube []), (7, .dat TCube (v7')), (8, .dat (.int .i64) (v8'))], [(3, .box 0 false (.dat TCube (b_1')))]⟩) x.1 x.2 := by kernel_rfl
theorem cube_Within.eq (n : Nat) (x : pdens cube_Within.ps) : Vi.run (cube_Within.C n) n f35 cube_Within.ps cube_Within.rs x = cube_Within n x.1 x.2 :=
  (cube_Within.run0 n x).trans (congr1 (fun k0 => cube_Within.s n k0 x.1 x.2) (funext fun v7' => funext fun v8' => funext fun b_1' => cube_Within.l0.eq n v7' b_1' n v8'))
theorem cube_Within.sound (n : Nat) : SoundE prog 35 (cube_Within.e n) :=
  soundE_of_run (C := cube_Within.C n) (n := n) (cube_Within.ok n) func35 (by kernel_rfl) (by kernel_rfl) (fun x r h => (cube_Within.eq n x).trans h)

def ref06_Within.rs : List RTy := [.data .bool]
def ref06_Within.ps : List PTy := [.data TCube, .data TCube]
noncomputable def ref06_Within.e (n : Nat) : Ent := ⟨ref06_Within.ps, ref06_Within.rs, fun x => ref06_Within n x.1 x.2⟩
noncomputable def ref06_Within.C (n : Nat) : Ctx := { tab := tab, fts := fts, Γ := lookO [(19, ref05_Within.e n)], Γc := lookO [], Γs := lookO [], ntmps := f36.ntmps, keep := Vi.look ([], []) [(2, ([2, 3, 5], [2, 3]))], pins := [] }
theorem ref06_Within.ok (n : Nat) : CtxOk prog (ref06_Within.C n) := ⟨types, ftsOk_, (fns_cons (ref05_Within.sound n) fns_nil), cls_nil, sqs_nil, mixed⟩
noncomputable def ref06_Within.code : Code := bodyOf f36
theorem ref06_Within.l0.step (n : Nat) (m0 : Nat) (f : Int) (a_1 : Cube) (b_1 : Cube) : it (EmR.no _) (ref06_Within.C n) n (Code.go ref06_Within.code [1, 0, 1, 0, 0]) (blockK 0 (seqK (EmR.no _) (ref06_Within.C n) n (Code.go ref06_Within.code [1, 1]) (bodyK (ref06_Within.C n) f36 ref06_Within.rs))) (m0 + 1) ⟨[(2, .ptr 2 0 TCube []), (3, .ptr 3 0 TCube []), (5, .dat (.int .i64) f)], [(2, .box 0 false (.dat TCube a_1)), (3, .box 0 false (.dat TCube b_1))]⟩ = ref06_Within.s0 n (fun (f' : Int) => it (EmR.no _) (ref06_Within.C n) n (Code.go ref06_Within.code [1, 0, 1, 0, 0]) (blockK 0 (seqK (EmR.no _) (ref06_Within.C n) n (Code.go ref06_Within.code [1, 1]) (bodyK (ref06_Within.C n) f36 ref06_Within.rs))) m0 ⟨[(2, .ptr 2 0 TCube []), (3, .ptr 3 0 TCube []), (5, .dat (.int .i64) (f'))], [(2, .box 0 false (.dat TCube a_1)), (3, .box 0 false (.dat TCube b_1))]⟩) f a_1 b_1 := by kernel_rfl
theorem ref06_Within.l0.eq (n : Nat) (a_1 : Cube) (b_1 : Cube) : ∀ (m0 : Nat) (f : Int), it (EmR.no _) (ref06_Within.C n) n (Code.go ref06_Within.code [1, 0, 1, 0, 0]) (blockK 0 (seqK (EmR.no _) (ref06_Within.C n) n (Code.go ref06_Within.code [1, 1]) (bodyK (ref06_Within.C n) f36 ref06_Within.rs))) m0 ⟨[(2, .ptr 2 0 TCube []), (3, .ptr 3 0 TCube []), (5, .dat (.int .i64) f)], [(2, .box 0 false (.dat TCube a_1)), (3, .box 0 false (.dat TCube b_1))]⟩ = ref06_Within.l0 n a_1 b_1 m0 f
  | 0, _ => rfl
  | m0 + 1, f =>
    (ref06_Within.l0.step n m0 f a_1 b_1).trans (congr1 (fun k0 => ref06_Within.s0 n k0 f a_1 b_1) (funext fun f' => ref06_Within.l0.eq n a_1 b_1 m0 f'))
theorem ref06_Within.run0 (n : Nat) (x : pdens ref06_Within.ps) : Vi.run (ref06_Within.C n) n f36 ref06_Within.ps ref06_Within.rs x = ref06_Within.s n (fun (f' : Int) (a_1' : Cube) (b_1' : Cube) => it (EmR.no _) (ref06_Within.C n) n (Code.go ref06_Within.code [1, 0, 1, 0, 0]) (blockK 0 (seqK (EmR.no _) (ref06_Within.C n) n (Code.go ref06_Within.code [1, 1]) (bodyK (ref06_Within.C n) f36 ref06_Within.rs))) n ⟨[(2, .ptr 2 0 TCube []), (3, .ptr 3 0 TCube []), (5, .dat (.int .i64) (f'))], [(2, .box 0 false (.dat TCube (a_1'))), (3, .box 0 false (.dat TCube (b_1')))]⟩) x.1 x.2 := by kernel_rfl
theorem ref06_Within.eq (n : Nat) (x : pdens ref06_Within.ps) : Vi.run (ref06_Within.C n) n f36 ref06_Within.ps ref06_Within.rs x = ref06_Within n x.1 x.2 :=
  (ref06_Within.run0 n x).trans (congr1 (fun k0 => ref06_Within.s n k0 x.1 x.2) (funext fun f' => funext fun a_1' => funext fun b_1' => ref06_Within.l0.eq n a_1' b_1' n f'))
theorem ref06_Within.sound (n : Nat) : SoundE prog 36 (ref06_Within.e n) :=
  soundE_of_run (C := ref06_Within.C n) (n := n) (ref06_Within.ok n) func36 (by kernel_rfl) (by kernel_rfl) (fun x r h => (ref06_Within.eq n x).trans h)

def cube_Pick.rs : List RTy := [.data THeader]
def cube_Pick.ps : List PTy := [.data TCube]
noncomputable def cube_Pick.e (n : Nat) : Ent := ⟨cube_Pick.ps, cube_Pick.rs, fun x => cube_Pick n x⟩
noncomputable def cube_Pick.C (n : Nat) : Ctx := { tab := tab, fts := fts, Γ := lookO [(23, tern_Clean.e n)], Γc := lookO [], Γs := lookO [], ntmps := f37.ntmps, keep := Vi.look ([], []) [(3, ([2, 3, 6, 7], [2, 3]))], pins := [] }
theorem cube_Pick.ok (n : Nat) : CtxOk prog (cube_Pick.C n) := ⟨types, ftsOk_, (fns_cons (tern_Clean.sound n) fns_nil), cls_nil, sqs_nil, mixed⟩
noncomputable def cube_Pick.code : Code := bodyOf f37
theorem cube_Pick.l0.step (n : Nat) (m0 : Nat) (v6 : Cube) (v7 : Int) (v2 : Header) (h : Header) : it (EmR.no _) (cube_Pick.C n) n (Code.go cube_Pick.code [1, 1, 0, 1, 0, 0]) (blockK 0 (seqK (EmR.no _) (cube_Pick.C n) n (Code.go cube_Pick.code [1, 1, 1]) (bodyK (cube_Pick.C n) f37 cube_Pick.rs))) (m0 + 1) ⟨[(2, .ptr 2 0 THeader []), (3, .ptr 3 0 THeader []), (6, .dat TCube v6), (7, .dat (.int .i64) v7)], [(2, .box 0 false (.dat THeader v2)), (3, .box 0 false (.dat THeader h))]⟩ = cube_Pick.s0 n (fun (v7' : Int) (h' : Header) => it (EmR.no _) (cube_Pick.C n) n (Code.go cube_Pick.code [1, 1, 0, 1, 0, 0]) (blockK 0 (seqK (EmR.no _) (cube_Pick.C n) n (Code.go cube_Pick.code [1, 1, 1]) (bodyK (cube_Pick.C n) f37 cube_Pick.rs))) m0 ⟨[(2, .ptr 2 0 THeader []), (3, .ptr 3 0 THeader []), (6, .dat TCube v6), (7, .dat (.int .i64) (v7'))], [(2, .box 0 false (.dat THeader v2)), (3, .box 0 false (.dat THeader (h')))]⟩) v6 v7 v2 h := by kernel_rfl
theorem cube_Pick.l0.eq (n : Nat) (v6 : Cube) (v2 : Header) : ∀ (m0 : Nat) (v7 : Int) (h : Header), it (EmR.no _) (cube_Pick.C n) n (Code.go cube_Pick.code [1, 1, 0, 1, 0, 0]) (blockK 0 (seqK (EmR.no _) (cube_Pick.C n) n (Code.go cube_Pick.code [1, 1, 1]) (bodyK (cube_Pick.C n) f37 cube_Pick.rs))) m0 ⟨[(2, .ptr 2 0 THeader []), (3, .ptr 3 0 THeader []), (6, .dat TCube v6), (7, .dat (.int .i64) v7)], [(2, .box 0 false (.dat THeader v2)), (3, .box 0 false (.dat THeader h))]⟩ = cube_Pick.l0 n v6 v2 m0 v7 h
  | 0, _, _ => rfl
  | m0 + 1, v7, h =>
    (cube_Pick.l0.step n m0 v6 v7 v2 h).trans (congr1 (fun k0 => cube_Pick.s0 n k0 v6 v7 v2 h) (funext fun v7' => funext fun h' => cube_Pick.l0.eq n v6 v2 m0 v7' h'))
theorem cube_Pick.run0 (n : Nat) (x : pdens cube_Pick.ps) : Vi.run (cube_Pick.C n) n f37 cube_Pick.ps cube_Pick.rs x = cube_Pick.s n (fun (v6' : Cube) (v7' : Int) (v2' : Header) (h' : Header) => it (EmR.no _) (cube_Pick.C n) n (Code.go cube_Pick.code [1, 1, 0, 1, 0, 0]) (blockK 0 (seqK (EmR.no _) (cube_Pick.C n) n (Code.go cube_Pick.code [1, 1, 1]) (bodyK (cube_Pick.C n) f37 cube_Pick.rs))) n ⟨[(2, .ptr 2 0 THeader []), (3, .ptr 3 0 THeader []), (6, .dat TCube (v6')), (7, .dat (.int .i64) (v7'))], [(2, .box 0 false (.dat THeader (v2'))), (3, .box 0 false (.dat THeader (h')))]⟩) x := by kernel_rfl
theorem cube_Pick.eq (n : Nat) (x : pdens cube_Pick.ps) : Vi.run (cube_Pick.C n) n f37 cube_Pick.ps cube_Pick.rs x = cube_Pick n x :=
  (cube_Pick.run0 n x).trans (congr1 (fun k0 => cube_Pick.s n k0 x) (funext fun v6' => funext fun v7' => funext fun v2' => funext fun h' => cube_Pick.l0.eq n v6' v2' n v7' h'))
theorem cube_Pick.sound (n : Nat) : SoundE prog 37 (cube_Pick.e n) :=
  soundE_of_run (C := cube_Pick.C n) (n := n) (cube_Pick.ok n) func37 (by kernel_rfl) (by kernel_rfl) (fun x r h => (cube_Pick.eq n x).trans h)

def ref06_Pick.rs : List RTy := [.data THeader]
def ref06_Pick.ps : List PTy := [.data TCube]
noncomputable def ref06_Pick.e (n : Nat) : Ent := ⟨ref06_Pick.ps, ref06_Pick.rs, fun x => ref06_Pick n x⟩
noncomputable def ref06_Pick.C (n : Nat) : Ctx := { tab := tab, fts := fts, Γ := lookO [(24, ref05_Clean.e n)], Γc := lookO [], Γs := lookO [], ntmps := f38.ntmps, keep := Vi.look ([], []) [(3, ([1, 2, 3, 4], [1, 2, 3]))], pins := [] }
theorem ref06_Pick.ok (n : Nat) : CtxOk prog (ref06_Pick.C n) := ⟨types, ftsOk_, (fns_cons (ref05_Clean.sound n) fns_nil), cls_nil, sqs_nil, mixed⟩
noncomputable def ref06_Pick.code : Code := bodyOf f38
theorem ref06_Pick.l0.step (n : Nat) (m0 : Nat) (f : Int) (c_1 : Cube) (v2 : Header) (h : Header) : it (EmR.no _) (ref06_Pick.C n) n (Code.go ref06_Pick.code [1, 1, 0, 1, 0, 0]) (blockK 0 (seqK (EmR.no _) (ref06_Pick.C n) n (Code.go ref06_Pick.code [1, 1, 1]) (bodyK (ref06_Pick.C n) f38 ref06_Pick.rs))) (m0 + 1) ⟨[(1, .ptr 1 0 TCube []), (2, .ptr 2 0 THeader []), (3, .ptr 3 0 THeader []), (4, .dat (.int .i64) f)], [(1, .box 0 false (.dat TCube c_1)), (2, .box 0 false (.dat THeader v2)), (3, .box 0 false (.dat THeader h))]⟩ = ref06_Pick.s0 n (fun (f' : Int) (h' : Header) => it (EmR.no _) (ref06_Pick.C n) n (Code.go ref06_Pick.code [1, 1, 0, 1, 0, 0]) (blockK 0 (seqK (EmR.no _) (ref06_Pick.C n) n (Code.go ref06_Pick.code [1, 1, 1]) (bodyK (ref06_Pick.C n) f38 ref06_Pick.rs))) m0 ⟨[(1, .ptr 1 0 TCube []), (2, .ptr 2 0 THeader []), (3, .ptr 3 0 THeader []), (4, .dat (.int .i64) (f'))], [(1, .box 0 false (.dat TCube c_1)), (2, .box 0 false (.dat THeader v2)), (3, .box 0 false (.dat THeader (h')))]⟩) f c_1 v2 h := by kernel_rfl
theorem ref06_Pick.l0.eq (n : Nat) (c_1 : Cube) (v2 : Header) : ∀ (m0 : Nat) (f : Int) (h : Header), it (EmR.no _) (ref06_Pick.C n) n (Code.go ref06_Pick.code [1, 1, 0, 1, 0, 0]) (blockK 0 (seqK (EmR.no _) (ref06_Pick.C n) n (Code.go ref06_Pick.code [1, 1, 1]) (bodyK (ref06_Pick.C n) f38 ref06_Pick.rs))) m0 ⟨[(1, .ptr 1 0 TCube []), (2, .ptr 2 0 THeader []), (3, .ptr 3 0 THeader []), (4, .dat (.int .i64) f)], [(1, .box 0 false (.dat TCube c_1)), (2, .box 0 false (.dat THeader v2)), (3, .box 0 false (.dat THeader h))]⟩ = ref06_Pick.l0 n c_1 v2 m0 f h
  | 0, _, _ => rfl
  | m0 + 1, f, h =>
    (ref06_Pick.l0.step n m0 f c_1 v2 h).trans (congr1 (fun k0 => ref06_Pick.s0 n k0 f c_1 v2 h) (funext fun f' => funext fun h' => ref06_Pick.l0.eq n c_1 v2 m0 f' h'))
theorem ref06_Pick.run0 (n : Nat) (x : pdens ref06_Pick.ps) : Vi.run (ref06_Pick.C n) n f38 ref06_Pick.ps ref06_Pick.rs x = ref06_Pick.s n (fun (f' : Int) (c_1' : Cube) (v2' : Header) (h' : Header) => it (EmR.no _) (ref06_Pick.C n) n (Code.go ref06_Pick.code [1, 1, 0, 1, 0, 0]) (blockK 0 (seqK (EmR.no _) (ref06_Pick.C n) n (Code.go ref06_Pick.code [1, 1, 1]) (bodyK (ref06_Pick.C n) f38 ref06_Pick.rs))) n ⟨[(1, .ptr 1 0 TCube []), (2, .ptr 2 0 THeader []), (3, .ptr 3 0 THeader []), (4, .dat (.int .i64) (f'))], [(1, .box 0 false (.dat TCube (c_1'))), (2, .box 0 false (.dat THeader (v2'))), (3, .box 0 false (.dat THeader (h')))]⟩) x := by kernel_rfl
theorem ref06_Pick.eq (n : Nat) (x : pdens ref06_Pick.ps) : Vi.run (ref06_Pick.C n) n f38 ref06_Pick.ps ref06_Pick.rs x = ref06_Pick n x :=
  (ref06_Pick.run0 n x).trans (congr1 (fun k0 => ref06_Pick.s n k0 x) (funext fun f' => funext fun c_1' => funext fun v2' => funext fun h' => ref06_Pick.l0.eq n c_1' v2' n f' h'))
theorem ref06_Pick.sound (n : Nat) : SoundE prog 38 (ref06_Pick.e n) :=
  soundE_of_run (C := ref06_Pick.C n) (n := n) (ref06_Pick.ok n) func38 (by kernel_rfl) (by kernel_rfl) (fun x r h => (ref06_Pick.eq n x).trans h)

def cube_Size.rs : List RTy := [.data (.int .i64)]
def cube_Size.ps : List PTy := [.data TCube]
noncomputable def cube_Size.e (n : Nat) : Ent := ⟨cube_Size.ps, cube_Size.rs, fun x => cube_Size n x⟩
noncomputable def cube_Size.C (n : Nat) : Ctx := { tab := tab, fts := fts, Γ := lookO [(65, wide_Many.e n)], Γc := lookO [], Γs := lookO [], ntmps := f39.ntmps, keep := Vi.look ([], []) [(3, ([3, 6, 7], []))], pins := [] }
theorem cube_Size.ok (n : Nat) : CtxOk prog (cube_Size.C n) := ⟨types, ftsOk_, (fns_cons (wide_Many.sound n) fns_nil), cls_nil, sqs_nil, mixed⟩
noncomputable def cube_Size.code : Code := bodyOf f39
theorem cube_Size.l0.step (n : Nat) (m0 : Nat) (n3 : Int) (v6 : Cube) (v7 : Int) : it (EmR.no _) (cube_Size.C n) n (Code.go cube_Size.code [1, 1, 0, 1, 0, 0]) (blockK 0 (seqK (EmR.no _) (cube_Size.C n) n (Code.go cube_Size.code [1, 1, 1]) (bodyK (cube_Size.C n) f39 cube_Size.rs))) (m0 + 1) ⟨[(3, .dat (.int .i64) n3), (6, .dat TCube v6), (7, .dat (.int .i64) v7)], []⟩ = cube_Size.s0 n (fun (n3' : Int) (v7' : Int) => it (EmR.no _) (cube_Size.C n) n (Code.go cube_Size.code [1, 1, 0, 1, 0, 0]) (blockK 0 (seqK (EmR.no _) (cube_Size.C n) n (Code.go cube_Size.code [1, 1, 1]) (bodyK (cube_Size.C n) f39 cube_Size.rs))) m0 ⟨[(3, .dat (.int .i64) (n3')), (6, .dat TCube v6), (7, .dat (.int .i64) (v7'))], []⟩) n3 v6 v7 := by kernel_rfl
theorem cube_Size.l0.eq (n : Nat) (v6 : Cube) : ∀ (m0 : Nat) (n3 : Int) (v7 : Int), it (EmR.no _) (cube_Size.C n) n (Code.go cube_Size.code [1, 1, 0, 1, 0, 0]) (blockK 0 (seqK (EmR.no _) (cube_Size.C n) n (Code.go cube_Size.code [1, 1, 1]) (bodyK (cube_Size.C n) f39 cube_Size.rs))) m0 ⟨[(3, .dat (.int .i64) n3), (6, .dat TCube v6), (7, .dat (.int .i64) v7)], []⟩ = cube_Size.l0 n v6 m0 n3 v7
  | 0, _, _ => rfl
  | m0 + 1, n3, v7 =>
    (cube_Size.l0.step n m0 n3 v6 v7).trans (congr1 (fun k0 => cube_Size.s0 n k0 n3 v6 v7) (funext fun n3' => funext fun v7' => cube_Size.l0.eq n v6 m0 n3' v7'))
theorem cube_Size.run0 (n : Nat) (x : pdens cube_Size.ps) : Vi.run (cube_Size.C n) n f39 cube_Size.ps cube_Size.rs x = cube_Size.s n (fun (n3' : Int) (v6' : Cube) (v7' : Int) => it (EmR.no _) (cube_Size.C n) n (Code.go cube_Size.code [1, 1, 0, 1, 0, 0]) (blockK 0 (seqK (EmR.no _) (cube_Size.C n) n (Code.go cube_Size.code [1, 1, 1]) (bodyK (cube_Size.C n) f39 cube_Size.rs))) n ⟨[(3, .dat (.int .i64) (n3')), (6, .dat TCube (v6')), (7, .dat (.int .i64) (v7'))], []⟩) x := by kernel_rfl
theorem cube_Size.eq (n : Nat) (x : pdens cube_Size.ps) : Vi.run (cube_Size.C n) n f39 cube_Size.ps cube_Size.rs x = cube_Size n x :=
  (cube_Size.run0 n x).trans (congr1 (fun k0 => cube_Size.s n k0 x) (funext fun n3' => funext fun v6' => funext fun v7' => cube_Size.l0.eq n v6' n n3' v7'))
theorem cube_Size.sound (n : Nat) : SoundE prog 39 (cube_Size.e n) :=
  soundE_of_run (C := cube_Size.C n) (n := n) (cube_Size.ok n) func39 (by kernel_rfl) (by kernel_rfl) (fun x r h => (cube_Size.eq n x).trans h)

def ref02_Many.rs : List RTy := [.data (.int .i64)]
def ref02_Many.ps : List PTy := [.data TWide]
noncomputable def ref02_Many.e (n : Nat) : Ent := ⟨ref02_Many.ps, ref02_Many.rs, fun x => ref02_Many n x⟩
noncomputable def ref02_Many.C (n : Nat) : Ctx := { tab := tab, fts := fts, Γ := lookO [(66, ref02_Has.e n)], Γc := lookO [], Γs := lookO [], ntmps := f70.ntmps, keep := Vi.look ([], []) [(3, ([1, 3, 4], [1]))], pins := [] }
theorem ref02_Many.ok (n : Nat) : CtxOk prog (ref02_Many.C n) := ⟨types, ftsOk_, (fns_cons (ref02_Has.sound n) fns_nil), cls_nil, sqs_nil, mixed⟩
noncomputable def ref02_Many.code : Code := bodyOf f70
theorem ref02_Many.l0.step (n : Nat) (m0 : Nat) (n3 : Int) (i : Int) (a_1 : Wide) : it (EmR.no _) (ref02_Many.C n) n (Code.go ref02_Many.code [1, 1, 0, 1, 0, 0]) (blockK 0 (seqK (EmR.no _) (ref02_Many.C n) n (Code.go ref02_Many.code [1, 1, 1]) (bodyK (ref02_Many.C n) f70 ref02_Many.rs))) (m0 + 1) ⟨[(1, .ptr 1 0 TWide []), (3, .dat (.int .i64) n3), (4, .dat (.int .i64) i)], [(1, .box 0 false (.dat TWide a_1))]⟩ = ref02_Many.s0 n (fun (n3' : Int) (i' : Int) => it (EmR.no _) (ref02_Many.C n) n (Code.go ref02_Many.code [1, 1, 0, 1, 0, 0]) (blockK 0 (seqK (EmR.no _) (ref02_Many.C n) n (Code.go ref02_Many.code [1, 1, 1]) (bodyK (ref02_Many.C n) f70 ref02_Many.rs))) m0 ⟨[(1, .ptr 1 0 TWide []), (3, .dat (.int .i64) (n3')), (4, .dat (.int .i64) (i'))], [(1, .box 0 false (.dat TWide a_1))]⟩) n3 i a_1 := by kernel_rfl
theorem ref02_Many.l0.eq (n : Nat) (a_1 : Wide) : ∀ (m0 : Nat) (n3 : Int) (i : Int), it (EmR.no _) (ref02_Many.C n) n (Code.go ref02_Many.code [1, 1, 0, 1, 0, 0]) (blockK 0 (seqK (EmR.no _) (ref02_Many.C n) n (Code.go ref02_Many.code [1, 1, 1]) (bodyK (ref02_Many.C n) f70 ref02_Many.rs))) m0 ⟨[(1, .ptr 1 0 TWide []), (3, .dat (.int .i64) n3), (4, .dat (.int .i64) i)], [(1, .box 0 false (.dat TWide a_1))]⟩ = ref02_Many.l0 n a_1 m0 n3 i
  | 0, _, _ => rfl
  | m0 + 1, n3, i =>
    (ref02_Many.l0.step n m0 n3 i a_1).trans (congr1 (fun k0 => ref02_Many.s0 n k0 n3 i a_1) (funext fun n3' => funext fun i' => ref02_Many.l0.eq n a_1 m0 n3' i'))
theorem ref02_Many.run0 (n : Nat) (x : pdens ref02_Many.ps) : Vi.run (ref02_Many.C n) n f70 ref02_Many.ps ref02_Many.rs x = ref02_Many.s n (fun (n3' : Int) (i' : Int) (a_1' : Wide) => it (EmR.no _) (ref02_Many.C n) n (Code.go ref02_Many.code [1, 1, 0, 1, 0, 0]) (blockK 0 (seqK (EmR.no _) (ref02_Many.C n) n (Code.go ref02_Many.code [1, 1, 1]) (bodyK (ref02_Many.C n) f70 ref02_Many.rs))) n ⟨[(1, .ptr 1 0 TWide []), (3, .dat (.int .i64) (n3')), (4, .dat (.int .i64) (i'))], [(1, .box 0 false (.dat TWide (a_1')))]⟩) x := by kernel_rfl
theorem ref02_Many.eq (n : Nat) (x : pdens ref02_Many.ps) : Vi.run (ref02_Many.C n) n f70 ref02_Many.ps ref02_Many.rs x = ref02_Many n x :=
  (ref02_Many.run0 n x).trans (congr1 (fun k0 => ref02_Many.s n k0 x) (funext fun n3' => funext fun i' => funext fun a_1' => ref02_Many.l0.eq n a_1' n n3' i'))
theorem ref02_Many.sound (n : Nat) : SoundE prog 70 (ref02_Many.e n) :=
  soundE_of_run (C := ref02_Many.C n) (n := n) (ref02_Many.ok n) func70 (by kernel_rfl) (by kernel_rfl) (fun x r h => (ref02_Many.eq n x).trans h)

def ref06_Size.rs : List RTy := [.data (.int .i64)]
def ref06_Size.ps : List PTy := [.data TCube]
noncomputable def ref06_Size.e (n : Nat) : Ent := ⟨ref06_Size.ps, ref06_Size.rs, fun x => ref06_Size n x⟩
noncomputable def ref06_Size.C (n : Nat) : Ctx := { tab := tab, fts := fts, Γ := lookO [(70, ref02_Many.e n)], Γc := lookO [], Γs := lookO [], ntmps := f40.ntmps, keep := Vi.look ([], []) [(3, ([1, 3, 4], [1]))], pins := [] }
theorem ref06_Size.ok (n : Nat) : CtxOk prog (ref06_Size.C n) := ⟨types, ftsOk_, (fns_cons (ref02_Many.sound n) fns_nil), cls_nil, sqs_nil, mixed⟩
noncomputable def ref06_Size.code : Code := bodyOf f40
theorem ref06_Size.l0.step (n : Nat) (m0 : Nat) (n3 : Int) (f : Int) (c_1 : Cube) : it (EmR.no _) (ref06_Size.C n) n (Code.go ref06_Size.code [1, 1, 0, 1, 0, 0]) (blockK 0 (seqK (EmR.no _) (ref06_Size.C n) n (Code.go ref06_Size.code [1, 1, 1]) (bodyK (ref06_Size.C n) f40 ref06_Size.rs))) (m0 + 1) ⟨[(1, .ptr 1 0 TCube []), (3, .dat (.int .i64) n3), (4, .dat (.int .i64) f)], [(1, .box 0 false (.dat TCube c_1))]⟩ = ref06_Size.s0 n (fun (n3' : Int) (f' : Int) => it (EmR.no _) (ref06_Size.C n) n (Code.go ref06_Size.code [1, 1, 0, 1, 0, 0]) (blockK 0 (seqK (EmR.no _) (ref06_Size.C n) n (Code.go ref06_Size.code [1, 1, 1]) (bodyK (ref06_Size.C n) f40 ref06_Size.rs))) m0 ⟨[(1, .ptr 1 0 TCube []), (3, .dat (.int .i64) (n3')), (4, .dat (.int .i64) (f'))], [(1, .box 0 false (.dat TCube c_1))]⟩) n3 f c_1 := by kernel_rfl
theorem ref06_Size.l0.eq (n : Nat) (c_1 : Cube) : ∀ (m0 : Nat) (n3 : Int) (f : Int), it (EmR.no _) (ref06_Size.C n) n (Code.go ref06_Size.code [1, 1, 0, 1, 0, 0]) (blockK 0 (seqK (EmR.no _) (ref06_Size.C n) n (Code.go ref06_Size.code [1, 1, 1]) (bodyK (ref06_Size.C n) f40 ref06_Size.rs))) m0 ⟨[(1, .ptr 1 0 TCube []), (3, .dat (.int .i64) n3), (4, .dat (.int .i64) f)], [(1, .box 0 false (.dat TCube c_1))]⟩ = ref06_Size.l0 n c_1 m0 n3 f
  | 0, _, _ => rfl
  | m0 + 1, n3, f =>
    (ref06_Size.l0.step n m0 n3 f c_1).trans (congr1 (fun k0 => ref06_Size.s0 n k0 n3 f c_1) (funext fun n3' => funext fun f' => ref06_Size.l0.eq n c_1 m0 n3' f'))
theorem ref06_Size.run0 (n : Nat) (x : pdens ref06_Size.ps) : Vi.run (ref06_Size.C n) n f40 ref06_Size.ps ref06_Size.rs x = ref06_Size.s n (fun (n3' : Int) (f' : Int) (c_1' : Cube) => it (EmR.no _) (ref06_Size.C n) n (Code.go ref06_Size.code [1, 1, 0, 1, 0, 0]) (blockK 0 (seqK (EmR.no _) (ref06_Size.C n) n (Code.go ref06_Size.code [1, 1, 1]) (bodyK (ref06_Size.C n) f40 ref06_Size.rs))) n ⟨[(1, .ptr 1 0 TCube []), (3, .dat (.int .i64) (n3')), (4, .dat (.int .i64) (f'))], [(1, .box 0 false (.dat TCube (c_1')))]⟩) x := by kernel_rfl
theorem ref06_Size.eq (n : Nat) (x : pdens ref06_Size.ps) : Vi.run (ref06_Size.C n) n f40 ref06_Size.ps ref06_Size.rs x = ref06_Size n x :=
  (ref06_Size.run0 n x).trans (congr1 (fun k0 => ref06_Size.s n k0 x) (funext fun n3' => funext fun f' => funext fun c_1' => ref06_Size.l0.eq n c_1' n n3' f'))
theorem ref06_Size.sound (n : Nat) : SoundE prog 40 (ref06_Size.e n) :=
  soundE_of_run (C := ref06_Size.C n) (n := n) (ref06_Size.ok n) func40 (by kernel_rfl) (by kernel_rfl) (fun x r h => (ref06_Size.eq n x).trans h)

def cube_Clean_1.rs : List Ty := [TTern, .bool]
def cube_Clean_1.ps : List Ty := [(.int .i64)]
def cube_Clean_1.caps : List PTy := [.cptr TCube]
noncomputable def cube_Clean_1.e (n : Nat) : Cl := ⟨cube_Clean_1.ps, cube_Clean_1.caps, cube_Clean_1.rs, fun x c => cube_Clean_1 x c⟩
noncomputable def cube_Clean_1.C (n : Nat) : Ctx := { tab := tab, fts := fts, Γ := lookO [(23, tern_Clean.e n)], Γc := lookO [], Γs := lookO [], ntmps := f71.ntmps, keep := Vi.look ([], []) [], pins := [] }
theorem cube_Clean_1.ok (n : Nat) : CtxOk prog (cube_Clean_1.C n) := ⟨types, ftsOk_, (fns_cons (tern_Clean.sound n) fns_nil), cls_nil, sqs_nil, mixed⟩
theorem cube_Clean_1.eq (n : Nat) (x : dens cube_Clean_1.ps) (c : pdens cube_Clean_1.caps) : Vi.runC (cube_Clean_1.C n) n f71 cube_Clean_1.ps cube_Clean_1.caps cube_Clean_1.rs x c = cube_Clean_1 x c := by kernel_rfl
theorem cube_Clean_1.sound (n : Nat) : SoundC prog 71 (cube_Clean_1.e n) :=
  soundC_of_run (C := cube_Clean_1.C n) (n := n) (cube_Clean_1.ok n) func71 (by kernel_rfl) (by kernel_rfl) (fun x c r h => (cube_Clean_1.eq n x c).trans h)

def cube_Clean.rs : List RTy := [.data TCube]
def cube_Clean.ps : List PTy := [.data TCube]
noncomputable def cube_Clean.e (n : Nat) : Ent := ⟨cube_Clean.ps, cube_Clean.rs, fun x => cube_Clean n x⟩
noncomputable def cube_Clean.C (n : Nat) : Ctx := { tab := tab, fts := fts, Γ := lookO [(68, cube_each.e n)], Γc := lookO [(71, cube_Clean_1.e n)], Γs := lookO [], ntmps := f41.ntmps, keep := Vi.look ([], []) [], pins := [] }
theorem cube_Clean.ok (n : Nat) : CtxOk prog (cube_Clean.C n) := ⟨types, ftsOk_, (fns_cons (cube_each.sound n) fns_nil), (cls_cons (cube_Clean_1.sound n) cls_nil), sqs_nil, mixed⟩
theorem cube_Clean.eq (n : Nat) (x : pdens cube_Clean.ps) : Vi.run (cube_Clean.C n) n f41 cube_Clean.ps cube_Clean.rs x = cube_Clean n x := by kernel_rfl
theorem cube_Clean.sound (n : Nat) : SoundE prog 41 (cube_Clean.e n) :=
  soundE_of_run (C := cube_Clean.C n) (n := n) (cube_Clean.ok n) func41 (by kernel_rfl) (by kernel_rfl) (fun x r h => (cube_Clean.eq n x).trans h)

def ref06_Clean.rs : List RTy := [.data TCube]
def ref06_Clean.ps : List PTy := [.data TCube]
noncomputable def ref06_Clean.e (n : Nat) : Ent := ⟨ref06_Clean.ps, ref06_Clean.rs, fun x => ref06_Clean n x⟩
noncomputable def ref06_Clean.C (n : Nat) : Ctx := { tab := tab, fts := fts, Γ := lookO [(24, ref05_Clean.e n)], Γc := lookO [], Γs := lookO [], ntmps := f42.ntmps, keep := Vi.look ([], []) [(2, ([1, 2, 3], [1, 2]))], pins := [] }
theorem ref06_Clean.ok (n : Nat) : CtxOk prog (ref06_Clean.C n) := ⟨types, ftsOk_, (fns_cons (ref05_Clean.sound n) fns_nil), cls_nil, sqs_nil, mixed⟩
noncomputable def ref06_Clean.code : Code := bodyOf f42
theorem ref06_Clean.l0.step (n : Nat) (m0 : Nat) (f : Int) (c_1 : Cube) (v2 : Cube) : it (EmR.no _) (ref06_Clean.C n) n (Code.go ref06_Clean.code [1, 0, 1, 0, 0]) (blockK 0 (seqK (EmR.no _) (ref06_Clean.C n) n (Code.go ref06_Clean.code [1, 1]) (bodyK (ref06_Clean.C n) f42 ref06_Clean.rs))) (m0 + 1) ⟨[(1, .ptr 1 0 TCube []), (2, .ptr 2 0 TCube []), (3, .dat (.int .i64) f)], [(1, .box 0 false (.dat TCube c_1)), (2, .box 0 false (.dat TCube v2))]⟩ = ref06_Clean.s0 n (fun (f' : Int) (c_1' : Cube) => it (EmR.no _) (ref06_Clean.C n) n (Code.go ref06_Clean.code [1, 0, 1, 0, 0]) (blockK 0 (seqK (EmR.no _) (ref06_Clean.C n) n (Code.go ref06_Clean.code [1, 1]) (bodyK (ref06_Clean.C n) f42 ref06_Clean.rs))) m0 ⟨[(1, .ptr 1 0 TCube []), (2, .ptr 2 0 TCube []), (3, .dat (.int .i64) (f'))], [(1, .box 0 false (.dat TCube (c_1'))), (2, .box 0 false (.dat TCube v2))]⟩) f c_1 v2 := by kernel_rfl
theorem ref06_Clean.l0.eq (n : Nat) (v2 : Cube) : ∀ (m0 : Nat) (f : Int) (c_1 : Cube), it (EmR.no _) (ref06_Clean.C n) n (Code.go ref06_Clean.code [1, 0, 1, 0, 0]) (blockK 0 (seqK (EmR.no _) (ref06_Clean.C n) n (Code.go ref06_Clean.code [1, 1]) (bodyK (ref06_Clean.C n) f42 ref06_Clean.rs))) m0 ⟨[(1, .ptr 1 0 TCube []), (2, .ptr 2 0 TCube []), (3, .dat (.int .i64) f)], [(1, .box 0 false (.dat TCube c_1)), (2, .box 0 false (.dat TCube v2))]⟩ = ref06_Clean.l0 n v2 m0 f c_1
  | 0, _, _ => rfl
  | m0 + 1, f, c_1 =>
    (ref06_Clean.l0.step n m0 f c_1 v2).trans (congr1 (fun k0 => ref06_Clean.s0 n k0 f c_1 v2) (funext fun f' => funext fun c_1' => ref06_Clean.l0.eq n v2 m0 f' c_1'))
theorem ref06_Clean.run0 (n : Nat) (x : pdens ref06_Clean.ps) : Vi.run (ref06_Clean.C n) n f42 ref06_Clean.ps ref06_Clean.rs x = ref06_Clean.s n (fun (f' : Int) (c_1' : Cube) (v2' : Cube) => it (EmR.no _) (ref06_Clean.C n) n (Code.go ref06_Clean.code [1, 0, 1, 0, 0]) (blockK 0 (seqK (EmR.no _) (ref06_Clean.C n) n (Code.go ref06_Clean.code [1, 1]) (bodyK (ref06_Clean.C n) f42 ref06_Clean.rs))) n ⟨[(1, .ptr 1 0 TCube []), (2, .ptr 2 0 TCube []), (3, .dat (.int .i64) (f'))], [(1, .box 0 false (.dat TCube (c_1'))), (2, .box 0 false (.dat TCube (v2')))]⟩) x := by kernel_rfl
theorem ref06_Clean.eq (n : Nat) (x : pdens ref06_Clean.ps) : Vi.run (ref06_Clean.C n) n f42 ref06_Clean.ps ref06_Clean.rs x = ref06_Clean n x :=
  (ref06_Clean.run0 n x).trans (congr1 (fun k0 => ref06_Clean.s n k0 x) (funext fun f' => funext fun c_1' => funext fun v2' => ref06_Clean.l0.eq n v2' n f' c_1'))
theorem ref06_Clean.sound (n : Nat) : SoundE prog 42 (ref06_Clean.e n) :=
  soundE_of_run (C := ref06_Clean.C n) (n := n) (ref06_Clean.ok n) func42 (by kernel_rfl) (by kernel_rfl) (fun x r h => (ref06_Clean.eq n x).trans h)

def wide_low.rs : List RTy := [.data (.int .u64)]
def wide_low.ps : List PTy := [.data (.int .i64)]
noncomputable def wide_low.e (n : Nat) : Ent := ⟨wide_low.ps, wide_low.rs, fun x => wide_low x⟩
noncomputable def wide_low.C (n : Nat) : Ctx := { tab := tab, fts := fts, Γ := lookO [], Γc := lookO [], Γs := lookO [], ntmps := f78.ntmps, keep := Vi.look ([], []) [], pins := [] }
theorem wide_low.ok (n : Nat) : CtxOk prog (wide_low.C n) := ⟨types, ftsOk_, fns_nil, cls_nil, sqs_nil, mixed⟩
theorem wide_low.eq (n : Nat) (x : pdens wide_low.ps) : Vi.run (wide_low.C n) n f78 wide_low.ps wide_low.rs x = wide_low x := by kernel_rfl
theorem wide_low.sound (n : Nat) : SoundE prog 78 (wide_low.e n) :=
  soundE_of_run (C := wide_low.C n) (n := n) (wide_low.ok n) func78 (by kernel_rfl) (by kernel_rfl) (fun x r h => (wide_low.eq n x).trans h)

def wide_Low.rs : List RTy := [.data TWide]
def wide_Low.ps : List PTy := [.data (.int .i64)]
noncomputable def wide_Low.e (n : Nat) : Ent := ⟨wide_Low.ps, wide_Low.rs, fun x => wide_Low x⟩
noncomputable def wide_Low.C (n : Nat) : Ctx := { tab := tab, fts := fts, Γ := lookO [(78, wide_low.e n)], Γc := lookO [], Γs := lookO [], ntmps := f73.ntmps, keep := Vi.look ([], []) [], pins := [] }
theorem wide_Low.ok (n : Nat) : CtxOk prog (wide_Low.C n) := ⟨types, ftsOk_, (fns_cons (wide_low.sound n) fns_nil), cls_nil, sqs_nil, mixed⟩
theorem wide_Low.eq (n : Nat) (x : pdens wide_Low.ps) : Vi.run (wide_Low.C n) n f73 wide_Low.ps wide_Low.rs x = wide_Low x := by kernel_rfl
theorem wide_Low.sound (n : Nat) : SoundE prog 73 (wide_Low.e n) :=
  soundE_of_run (C := wide_Low.C n) (n := n) (wide_Low.ok n) func73 (by kernel_rfl) (by kernel_rfl) (fun x r h => (wide_Low.eq n x).trans h)

def cube_One_1.rs : List Ty := [TTern, .bool]
def cube_One_1.ps : List Ty := [(.int .i64)]
def cube_One_1.caps : List PTy := [.cptr THeader]
noncomputable def cube_One_1.e (n : Nat) : Cl := ⟨cube_One_1.ps, cube_One_1.caps, cube_One_1.rs, fun x c => cube_One_1 x c⟩
noncomputable def cube_One_1.C (n : Nat) : Ctx := { tab := tab, fts := fts, Γ := lookO [(73, wide_Low.e n)], Γc := lookO [], Γs := lookO [], ntmps := f72.ntmps, keep := Vi.look ([], []) [], pins := [] }
theorem cube_One_1.ok (n : Nat) : CtxOk prog (cube_One_1.C n) := ⟨types, ftsOk_, (fns_cons (wide_Low.sound n) fns_nil), cls_nil, sqs_nil, mixed⟩
theorem cube_One_1.eq (n : Nat) (x : dens cube_One_1.ps) (c : pdens cube_One_1.caps) : Vi.runC (cube_One_1.C n) n f72 cube_One_1.ps cube_One_1.caps cube_One_1.rs x c = cube_One_1 x c := by kernel_rfl
theorem cube_One_1.sound (n : Nat) : SoundC prog 72 (cube_One_1.e n) :=
  soundC_of_run (C := cube_One_1.C n) (n := n) (cube_One_1.ok n) func72 (by kernel_rfl) (by kernel_rfl) (fun x c r h => (cube_One_1.eq n x c).trans h)

def cube_One.rs : List RTy := [.data TCube]
def cube_One.ps : List PTy := [.data THeader]
noncomputable def cube_One.e (n : Nat) : Ent := ⟨cube_One.ps, cube_One.rs, fun x => cube_One n x⟩
noncomputable def cube_One.C (n : Nat) : Ctx := { tab := tab, fts := fts, Γ := lookO [(68, cube_each.e n)], Γc := lookO [(72, cube_One_1.e n)], Γs := lookO [], ntmps := f43.ntmps, keep := Vi.look ([], []) [], pins := [] }
theorem cube_One.ok (n : Nat) : CtxOk prog (cube_One.C n) := ⟨types, ftsOk_, (fns_cons (cube_each.sound n) fns_nil), (cls_cons (cube_One_1.sound n) cls_nil), sqs_nil, mixed⟩
theorem cube_One.eq (n : Nat) (x : pdens cube_One.ps) : Vi.run (cube_One.C n) n f43 cube_One.ps cube_One.rs x = cube_One n x := by kernel_rfl
theorem cube_One.sound (n : Nat) : SoundE prog 43 (cube_One.e n) :=
  soundE_of_run (C := cube_One.C n) (n := n) (cube_One.ok n) func43 (by kernel_rfl) (by kernel_rfl) (fun x r h => (cube_One.eq n x).trans h)

def ref02_Low.rs : List RTy := [.data TWide]
def ref02_Low.ps : List PTy := [.data (.int .i64)]
noncomputable def ref02_Low.e (n : Nat) : Ent := ⟨ref02_Low.ps, ref02_Low.rs, fun x => ref02_Low n x⟩
noncomputable def ref02_Low.C (n : Nat) : Ctx := { tab := tab, fts := fts, Γ := lookO [(61, ref02_Or.e n), (67, ref02_Bit.e n)], Γc := lookO [], Γs := lookO [], ntmps := f74.ntmps, keep := Vi.look ([], []) [(3, ([0, 2, 3, 4], [2, 3]))], pins := [] }
theorem ref02_Low.ok (n : Nat) : CtxOk prog (ref02_Low.C n) := ⟨types, ftsOk_, (fns_cons (ref02_Or.sound n) (fns_cons (ref02_Bit.sound n) fns_nil)), cls_nil, sqs_nil, mixed⟩
noncomputable def ref02_Low.code : Code := bodyOf f74
theorem ref02_Low.l0.step (n : Nat) (m0 : Nat) (n0_1 : Int) (i : Int) (v2 : Wide) (out : Wide) : it (EmR.no _) (ref02_Low.C n) n (Code.go ref02_Low.code [1, 1, 0, 1, 0, 0]) (blockK 0 (seqK (EmR.no _) (ref02_Low.C n) n (Code.go ref02_Low.code [1, 1, 1]) (bodyK (ref02_Low.C n) f74 ref02_Low.rs))) (m0 + 1) ⟨[(0, .dat (.int .i64) n0_1), (2, .ptr 2 0 TWide []), (3, .ptr 3 0 TWide []), (4, .dat (.int .i64) i)], [(2, .box 0 false (.dat TWide v2)), (3, .box 0 false (.dat TWide out))]⟩ = ref02_Low.s0 n (fun (i' : Int) (out' : Wide) => it (EmR.no _) (ref02_Low.C n) n (Code.go ref02_Low.code [1, 1, 0, 1, 0, 0]) (blockK 0 (seqK (EmR.no _) (ref02_Low.C n) n (Code.go ref02_Low.code [1, 1, 1]) (bodyK (ref02_Low.C n) f74 ref02_Low.rs))) m0 ⟨[(0, .dat (.int .i64) n0_1), (2, .ptr 2 0 TWide []), (3, .ptr 3 0 TWide []), (4, .dat (.int .i64) (i'))], [(2, .box 0 false (.dat TWide v2)), (3, .box 0 false (.dat TWide (out')))]⟩) n0_1 i v2 out := by kernel_rfl
theorem ref02_Low.l0.eq (n : Nat) (n0_1 : Int) (v2 : Wide) : ∀ (m0 : Nat) (i : Int) (out : Wide), it (EmR.no _) (ref02_Low.C n) n (Code.go ref02_Low.code [1, 1, 0, 1, 0, 0]) (blockK 0 (seqK (EmR.no _) (ref02_Low.C n) n (Code.go ref02_Low.code [1, 1, 1]) (bodyK (ref02_Low.C n) f74 ref02_Low.rs))) m0 ⟨[(0, .dat (.int .i64) n0_1), (2, .ptr 2 0 TWide []), (3, .ptr 3 0 TWide []), (4, .dat (.int .i64) i)], [(2, .box 0 false (.dat TWide v2)), (3, .box 0 false (.dat TWide out))]⟩ = ref02_Low.l0 n n0_1 v2 m0 i out
  | 0, _, _ => rfl
  | m0 + 1, i, out =>
    (ref02_Low.l0.step n m0 n0_1 i v2 out).trans (congr1 (fun k0 => ref02_Low.s0 n k0 n0_1 i v2 out) (funext fun i' => funext fun out' => ref02_Low.l0.eq n n0_1 v2 m0 i' out'))
theorem ref02_Low.run0 (n : Nat) (x : pdens ref02_Low.ps) : Vi.run (ref02_Low.C n) n f74 ref02_Low.ps ref02_Low.rs x = ref02_Low.s n (fun (n0_1' : Int) (i' : Int) (v2' : Wide) (out' : Wide) => it (EmR.no _) (ref02_Low.C n) n (Code.go ref02_Low.code [1, 1, 0, 1, 0, 0]) (blockK 0 (seqK (EmR.no _) (ref02_Low.C n) n (Code.go ref02_Low.code [1, 1, 1]) (bodyK (ref02_Low.C n) f74 ref02_Low.rs))) n ⟨[(0, .dat (.int .i64) (n0_1')), (2, .ptr 2 0 TWide []), (3, .ptr 3 0 TWide []), (4, .dat (.int .i64) (i'))], [(2, .box 0 false (.dat TWide (v2'))), (3, .box 0 false (.dat TWide (out')))]⟩) x := by kernel_rfl
theorem ref02_Low.eq (n : Nat) (x : pdens ref02_Low.ps) : Vi.run (ref02_Low.C n) n f74 ref02_Low.ps ref02_Low.rs x = ref02_Low n x :=
  (ref02_Low.run0 n x).trans (congr1 (fun k0 => ref02_Low.s n k0 x) (funext fun n0_1' => funext fun i' => funext fun v2' => funext fun out' => ref02_Low.l0.eq n n0_1' v2' n i' out'))
theorem ref02_Low.sound (n : Nat) : SoundE prog 74 (ref02_Low.e n) :=
  soundE_of_run (C := ref02_Low.C n) (n := n) (ref02_Low.ok n) func74 (by kernel_rfl) (by kernel_rfl) (fun x r h => (ref02_Low.eq n x).trans h)

def ref06_One.rs : List RTy := [.data TCube]
def ref06_One.ps : List PTy := [.data THeader]
noncomputable def ref06_One.e (n : Nat) : Ent := ⟨ref06_One.ps, ref06_One.rs, fun x => ref06_One n x⟩
noncomputable def ref06_One.C (n : Nat) : Ctx := { tab := tab, fts := fts, Γ := lookO [(74, ref02_Low.e n)], Γc := lookO [], Γs := lookO [], ntmps := f44.ntmps, keep := Vi.look ([], []) [(3, ([1, 2, 3, 4], [1, 2, 3]))], pins := [] }
theorem ref06_One.ok (n : Nat) : CtxOk prog (ref06_One.C n) := ⟨types, ftsOk_, (fns_cons (ref02_Low.sound n) fns_nil), cls_nil, sqs_nil, mixed⟩
noncomputable def ref06_One.code : Code := bodyOf f44
theorem ref06_One.l0.step (n : Nat) (m0 : Nat) (f : Int) (h_1 : Header) (v2 : Cube) (c : Cube) : it (EmR.no _) (ref06_One.C n) n (Code.go ref06_One.code [1, 1, 0, 1, 0, 0]) (blockK 0 (seqK (EmR.no _) (ref06_One.C n) n (Code.go ref06_One.code [1, 1, 1]) (bodyK (ref06_One.C n) f44 ref06_One.rs))) (m0 + 1) ⟨[(1, .ptr 1 0 THeader []), (2, .ptr 2 0 TCube []), (3, .ptr 3 0 TCube []), (4, .dat (.int .i64) f)], [(1, .box 0 false (.dat THeader h_1)), (2, .box 0 false (.dat TCube v2)), (3, .box 0 false (.dat TCube c))]⟩ = ref06_One.s0 n (fun (f' : Int) (c' : Cube) => it (EmR.no _) (ref06_One.C n) n (Code.go ref06_One.code [1, 1, 0, 1, 0, 0]) (blockK 0 (seqK (EmR.no _) (ref06_One.C n) n (Code.go ref06_One.code [1, 1, 1]) (bodyK (ref06_One.C n) f44 ref06_One.rs))) m0 ⟨[(1, .ptr 1 0 THeader []), (2, .ptr 2 0 TCube []), (3, .ptr 3 0 TCube []), (4, .dat (.int .i64) (f'))], [(1, .box 0 false (.dat THeader h_1)), (2, .box 0 false (.dat TCube v2)), (3, .box 0 false (.dat TCube (c')))]⟩) f h_1 v2 c := by kernel_rfl
theorem ref06_One.l0.eq (n : Nat) (h_1 : Header) (v2 : Cube) : ∀ (m0 : Nat) (f : Int) (c : Cube), it (EmR.no _) (ref06_One.C n) n (Code.go ref06_One.code [1, 1, 0, 1, 0, 0]) (blockK 0 (seqK (EmR.no _) (ref06_One.C n) n (Code.go ref06_One.code [1, 1, 1]) (bodyK (ref06_One.C n) f44 ref06_One.rs))) m0 ⟨[(1, .ptr 1 0 THeader []), (2, .ptr 2 0 TCube []), (3, .ptr 3 0 TCube []), (4, .dat (.int .i64) f)], [(1, .box 0 false (.dat THeader h_1)), (2, .box 0 false (.dat TCube v2)), (3, .box 0 false (.dat TCube c))]⟩ = ref06_One.l0 n h_1 v2 m0 f c
  | 0, _, _ => rfl
  | m0 + 1, f, c =>
    (ref06_One.l0.step n m0 f h_1 v2 c).trans (congr1 (fun k0 => ref06_One.s0 n k0 f h_1 v2 c) (funext fun f' => funext fun c' => ref06_One.l0.eq n h_1 v2 m0 f' c'))
theorem ref06_One.run0 (n : Nat) (x : pdens ref06_One.ps) : Vi.run (ref06_One.C n) n f44 ref06_One.ps ref06_One.rs x = ref06_One.s n (fun (f' : Int) (h_1' : Header) (v2' : Cube) (c' : Cube) => it (EmR.no _) (ref06_One.C n) n (Code.go ref06_One.code [1, 1, 0, 1, 0, 0]) (blockK 0 (seqK (EmR.no _) (ref06_One.C n) n (Code.go ref06_One.code [1, 1, 1]) (bodyK (ref06_One.C n) f44 ref06_One.rs))) n ⟨[(1, .ptr 1 0 THeader []), (2, .ptr 2 0 TCube []), (3, .ptr 3 0 TCube []), (4, .dat (.int .i64) (f'))], [(1, .box 0 false (.dat THeader (h_1'))), (2, .box 0 false (.dat TCube (v2'))), (3, .box 0 false (.dat TCube (c')))]⟩) x := by kernel_rfl
theorem ref06_One.eq (n : Nat) (x : pdens ref06_One.ps) : Vi.run (ref06_One.C n) n f44 ref06_One.ps ref06_One.rs x = ref06_One n x :=
  (ref06_One.run0 n x).trans (congr1 (fun k0 => ref06_One.s n k0 x) (funext fun f' => funext fun h_1' => funext fun v2' => funext fun c' => ref06_One.l0.eq n h_1' v2' n f' c'))
theorem ref06_One.sound (n : Nat) : SoundE prog 44 (ref06_One.e n) :=
  soundE_of_run (C := ref06_One.C n) (n := n) (ref06_One.ok n) func44 (by kernel_rfl) (by kernel_rfl) (fun x r h => (ref06_One.eq n x).trans h)

def cube_All.rs : List RTy := [.data TCube]
def cube_All.ps : List PTy := []
noncomputable def cube_All.e (n : Nat) : Ent := ⟨cube_All.ps, cube_All.rs, fun x => some (cube_All)⟩
noncomputable def cube_All.C (n : Nat) : Ctx := { tab := tab, fts := fts, Γ := lookO [], Γc := lookO [], Γs := lookO [], ntmps := f45.ntmps, keep := Vi.look ([], []) [], pins := [] }
theorem cube_All.ok (n : Nat) : CtxOk prog (cube_All.C n) := ⟨types, ftsOk_, fns_nil, cls_nil, sqs_nil, mixed⟩
theorem cube_All.eq (n : Nat) (x : pdens cube_All.ps) : Vi.run (cube_All.C n) n f45 cube_All.ps cube_All.rs x = some (cube_All) := by kernel_rfl
theorem cube_All.sound (n : Nat) : SoundE prog 45 (cube_All.e n) :=
  soundE_of_run (C := cube_All.C n) (n := n) (cube_All.ok n) func45 (by kernel_rfl) (by kernel_rfl) (fun x r h => (cube_All.eq n x).trans h)

def ref06_All.rs : List RTy := [.data TCube]
def ref06_All.ps : List PTy := []
noncomputable def ref06_All.e (n : Nat) : Ent := ⟨ref06_All.ps, ref06_All.rs, fun x => some (ref06_All)⟩
noncomputable def ref06_All.C (n : Nat) : Ctx := { tab := tab, fts := fts, Γ := lookO [], Γc := lookO [], Γs := lookO [], ntmps := f46.ntmps, keep := Vi.look ([], []) [], pins := [] }
theorem ref06_All.ok (n : Nat) : CtxOk prog (ref06_All.C n) := ⟨types, ftsOk_, fns_nil, cls_nil, sqs_nil, mixed⟩
theorem ref06_All.eq (n : Nat) (x : pdens ref06_All.ps) : Vi.run (ref06_All.C n) n f46 ref06_All.ps ref06_All.rs x = some (ref06_All) := by kernel_rfl
theorem ref06_All.sound (n : Nat) : SoundE prog 46 (ref06_All.e n) :=
  soundE_of_run (C := ref06_All.C n) (n := n) (ref06_All.ok n) func46 (by kernel_rfl) (by kernel_rfl) (fun x r h => (ref06_All.eq n x).trans h)

def law06_awake.rs : List RTy := [.data .bool]
def law06_awake.ps : List PTy := []
noncomputable def law06_awake.e (n : Nat) : Ent := ⟨law06_awake.ps, law06_awake.rs, fun x => law06_awake n⟩
noncomputable def law06_awake.C (n : Nat) : Ctx := { tab := tab, fts := fts, Γ := lookO [(31, cube_Meet.e n), (33, cube_Has.e n), (35, cube_Within.e n), (37, cube_Pick.e n), (39, cube_Size.e n), (41, cube_Clean.e n), (43, cube_One.e n), (45, cube_All.e n)], Γc := lookO [], Γs := lookO [], ntmps := f47.ntmps, keep := Vi.look ([], []) [], pins := [] }
theorem law06_awake.ok (n : Nat) : CtxOk prog (law06_awake.C n) := ⟨types, ftsOk_, (fns_cons (cube_Meet.sound n) (fns_cons (cube_Has.sound n) (fns_cons (cube_Within.sound n) (fns_cons (cube_Pick.sound n) (fns_cons (cube_Size.sound n) (fns_cons (cube_Clean.sound n) (fns_cons (cube_One.sound n) (fns_cons (cube_All.sound n) fns_nil)))))))), cls_nil, sqs_nil, mixed⟩
theorem law06_awake.eq (n : Nat) (x : pdens law06_awake.ps) : Vi.run (law06_awake.C n) n f47 law06_awake.ps law06_awake.rs x = law06_awake n := by kernel_rfl
theorem law06_awake.sound (n : Nat) : SoundE prog 47 (law06_awake.e n) :=
  soundE_of_run (C := law06_awake.C n) (n := n) (law06_awake.ok n) func47 (by kernel_rfl) (by kernel_rfl) (fun x r h => (law06_awake.eq n x).trans h)

def law06_CubeTells.rs : List RTy := [.data .bool]
def law06_CubeTells.ps : List PTy := [.data TCube, .data TCube, .data THeader]
noncomputable def law06_CubeTells.e (n : Nat) : Ent := ⟨law06_CubeTells.ps, law06_CubeTells.rs, fun x => law06_CubeTells n x.1 x.2.1 x.2.2⟩
noncomputable def law06_CubeTells.C (n : Nat) : Ctx := { tab := tab, fts := fts, Γ := lookO [(31, cube_Meet.e n), (32, ref06_Meet.e n), (33, cube_Has.e n), (34, ref06_Has.e n), (35, cube_Within.e n), (36, ref06_Within.e n), (37, cube_Pick.e n), (38, ref06_Pick.e n), (39, cube_Size.e n), (40, ref06_Size.e n), (41, cube_Clean.e n), (42, ref06_Clean.e n), (43, cube_One.e n), (44, ref06_One.e n), (45, cube_All.e n), (46, ref06_All.e n), (47, law06_awake.e n)], Γc := lookO [], Γs := lookO [], ntmps := f7.ntmps, keep := Vi.look ([], []) [], pins := [] }
theorem law06_CubeTells.ok (n : Nat) : CtxOk prog (law06_CubeTells.C n) := ⟨types, ftsOk_, (fns_cons (cube_Meet.sound n) (fns_cons (ref06_Meet.sound n) (fns_cons (cube_Has.sound n) (fns_cons (ref06_Has.sound n) (fns_cons (cube_Within.sound n) (fns_cons (ref06_Within.sound n) (fns_cons (cube_Pick.sound n) (fns_cons (ref06_Pick.sound n) (fns_cons (cube_Size.sound n) (fns_cons (ref06_Size.sound n) (fns_cons (cube_Clean.sound n) (fns_cons (ref06_Clean.sound n) (fns_cons (cube_One.sound n) (fns_cons (ref06_One.sound n) (fns_cons (cube_All.sound n) (fns_cons (ref06_All.sound n) (fns_cons (law06_awake.sound n) fns_nil))))))))))))))))), cls_nil, sqs_nil, mixed⟩
theorem law06_CubeTells.eq (n : Nat) (x : pdens law06_CubeTells.ps) : Vi.run (law06_CubeTells.C n) n f7 law06_CubeTells.ps law06_CubeTells.rs x = law06_CubeTells n x.1 x.2.1 x.2.2 := by kernel_rfl
theorem law06_CubeTells.sound (n : Nat) : SoundE prog 7 (law06_CubeTells.e n) :=
  soundE_of_run (C := law06_CubeTells.C n) (n := n) (law06_CubeTells.ok n) func7 (by kernel_rfl) (by kernel_rfl) (fun x r h => (law06_CubeTells.eq n x).trans h)
def law06_CubeTells.g (n : Nat) (x : pdens (law06_CubeTells.τs.map PTy.data)) : Option Bool := law06_CubeTells n x.1 x.2.1 x.2.2
theorem law06_CubeTells.soundN (n : Nat) : SoundE prog 7 ⟨law06_CubeTells.τs.map PTy.data, [.data .bool], law06_CubeTells.g n⟩ := law06_CubeTells.sound n

def law06_CubeMeet.rs : List RTy := [.data .bool]
def law06_CubeMeet.ps : List PTy := [.data TCube, .data TCube, .data THeader]
noncomputable def law06_CubeMeet.e (n : Nat) : Ent := ⟨law06_CubeMeet.ps, law06_CubeMeet.rs, fun x => law06_CubeMeet n x.1 x.2.1 x.2.2⟩
noncomputable def law06_CubeMeet.C (n : Nat) : Ctx := { tab := tab, fts := fts, Γ := lookO [(31, cube_Meet.e n), (33, cube_Has.e n), (47, law06_awake.e n)], Γc := lookO [], Γs := lookO [], ntmps := f8.ntmps, keep := Vi.look ([], []) [], pins := [] }
theorem law06_CubeMeet.ok (n : Nat) : CtxOk prog (law06_CubeMeet.C n) := ⟨types, ftsOk_, (fns_cons (cube_Meet.sound n) (fns_cons (cube_Has.sound n) (fns_cons (law06_awake.sound n) fns_nil))), cls_nil, sqs_nil, mixed⟩
theorem law06_CubeMeet.eq (n : Nat) (x : pdens law06_CubeMeet.ps) : Vi.run (law06_CubeMeet.C n) n f8 law06_CubeMeet.ps law06_CubeMeet.rs x = law06_CubeMeet n x.1 x.2.1 x.2.2 := by kernel_rfl
theorem law06_CubeMeet.sound (n : Nat) : SoundE prog 8 (law06_CubeMeet.e n) :=
  soundE_of_run (C := law06_CubeMeet.C n) (n := n) (law06_CubeMeet.ok n) func8 (by kernel_rfl) (by kernel_rfl) (fun x r h => (law06_CubeMeet.eq n x).trans h)
def law06_CubeMeet.g (n : Nat) (x : pdens (law06_CubeMeet.τs.map PTy.data)) : Option Bool := law06_CubeMeet n x.1 x.2.1 x.2.2
theorem law06_CubeMeet.soundN (n : Nat) : SoundE prog 8 ⟨law06_CubeMeet.τs.map PTy.data, [.data .bool], law06_CubeMeet.g n⟩ := law06_CubeMeet.sound n

def law06_CubePick.rs : List RTy := [.data .bool]
def law06_CubePick.ps : List PTy := [.data TCube, .data THeader, .data THeader]
noncomputable def law06_CubePick.e (n : Nat) : Ent := ⟨law06_CubePick.ps, law06_CubePick.rs, fun x => law06_CubePick n x.1 x.2.1 x.2.2⟩
noncomputable def law06_CubePick.C (n : Nat) : Ctx := { tab := tab, fts := fts, Γ := lookO [(33, cube_Has.e n), (37, cube_Pick.e n), (43, cube_One.e n), (45, cube_All.e n), (47, law06_awake.e n), (48, wide_Or.e n), (49, wide_And.e n), (50, wide_Less.e n)], Γc := lookO [], Γs := lookO [], ntmps := f9.ntmps, keep := Vi.look ([], []) [(3, ([3, 4, 5, 7, 11, 12], [3, 4, 5, 7]))], pins := [] }
theorem law06_CubePick.ok (n : Nat) : CtxOk prog (law06_CubePick.C n) := ⟨types, ftsOk_, (fns_cons (cube_Has.sound n) (fns_cons (cube_Pick.sound n) (fns_cons (cube_One.sound n) (fns_cons (cube_All.sound n) (fns_cons (law06_awake.sound n) (fns_cons (wide_Or.sound n) (fns_cons (wide_And.sound n) (fns_cons (wide_Less.sound n) fns_nil)))))))), cls_nil, sqs_nil, mixed⟩
noncomputable def law06_CubePick.code : Code := bodyOf f9
theorem law06_CubePick.l0.step (n : Nat) (m0 : Nat) (v11 : Cube) (v12 : Int) (c_1 : Cube) (h_1 : Header) (g_1 : Header) (x : Header) : it (EmR.no _) (law06_CubePick.C n) n (Code.go law06_CubePick.code [1, 1, 0, 1, 0, 0]) (blockK 0 (seqK (EmR.no _) (law06_CubePick.C n) n (Code.go law06_CubePick.code [1, 1, 1]) (bodyK (law06_CubePick.C n) f9 law06_CubePick.rs))) (m0 + 1) ⟨[(3, .ptr 3 0 TCube []), (4, .ptr 4 0 THeader []), (5, .ptr 5 0 THeader []), (7, .ptr 7 0 THeader []), (11, .dat TCube v11), (12, .dat (.int .i64) v12)], [(3, .box 0 false (.dat TCube c_1)), (4, .box 0 false (.dat THeader h_1)), (5, .box 0 false (.dat THeader g_1)), (7, .box 0 false (.dat THeader x))]⟩ = law06_CubePick.s0 n (fun (v12' : Int) (x' : Header) => it (EmR.no _) (law06_CubePick.C n) n (Code.go law06_CubePick.code [1, 1, 0, 1, 0, 0]) (blockK 0 (seqK (EmR.no _) (law06_CubePick.C n) n (Code.go law06_CubePick.code [1, 1, 1]) (bodyK (law06_CubePick.C n) f9 law06_CubePick.rs))) m0 ⟨[(3, .ptr 3 0 TCube []), (4, .ptr 4 0 THeader []), (5, .ptr 5 0 THeader []), (7, .ptr 7 0 THeader []), (11, .dat TCube v11), (12, .dat (.int .i64) (v12'))], [(3, .box 0 false (.dat TCube c_1)), (4, .box 0 false (.dat THeader h_1)), (5, .box 0 false (.dat THeader g_1)), (7, .box 0 false (.dat THeader (x')))]⟩) v11 v12 c_1 h_1 g_1 x := by kernel_rfl
theorem law06_CubePick.l0.eq (n : Nat) (v11 : Cube) (c_1 : Cube) (h_1 : Header) (g_1 : Header) : ∀ (m0 : Nat) (v12 : Int) (x : Header), it (EmR.no _) (law06_CubePick.C n) n (Code.go law06_CubePick.code [1, 1, 0, 1, 0, 0]) (blockK 0 (seqK (EmR.no _) (law06_CubePick.C n) n (Code.go law06_CubePick.code [1, 1, 1]) (bodyK (law06_CubePick.C n) f9 law06_CubePick.rs))) m0 ⟨[(3, .ptr 3 0 TCube []), (4, .ptr 4 0 THeader []), (5, .ptr 5 0 THeader []), (7, .ptr 7 0 THeader []), (11, .dat TCube v11), (12, .dat (.int .i64) v12)], [(3, .box 0 false (.dat TCube c_1)), (4, .box 0 false (.dat THeader h_1)), (5, .box 0 false (.dat THeader g_1)), (7, .box 0 false (.dat THeader x))]⟩ = law06_CubePick.l0 n v11 c_1 h_1 g_1 m0 v12 x
  | 0, _, _ => rfl
  | m0 + 1, v12, x =>
    (law06_CubePick.l0.step n m0 v11 v12 c_1 h_1 g_1 x).trans (congr1 (fun k0 => law06_CubePick.s0 n k0 v11 v12 c_1 h_1 g_1 x) (funext fun v12' => funext fun x' => law06_CubePick.l0.eq n v11 c_1 h_1 g_1 m0 v12' x'))
theorem law06_CubePick.run0 (n : Nat) (x : pdens law06_CubePick.ps) : Vi.run (law06_CubePick.C n) n f9 law06_CubePick.ps law06_CubePick.rs x = law06_CubePick.s n (fun (v11' : Cube) (v12' : Int) (c_1' : Cube) (h_1' : Header) (g_1' : Header) (x' : Header) => it (EmR.no _) (law06_CubePick.C n) n (Code.go law06_CubePick.code [1, 1, 0, 1, 0, 0]) (blockK 0 (seqK (EmR.no _) (law06_CubePick.C n) n (Code.go law06_CubePick.code [1, 1, 1]) (bodyK (law06_CubePick.C n) f9 law06_CubePick.rs))) n ⟨[(3, .ptr 3 0 TCube []), (4, .ptr 4 0 THeader []), (5, .ptr 5 0 THeader []), (7, .ptr 7 0 THeader []), (11, .dat TCube (v11')), (12, .dat (.int .i64) (v12'))], [(3, .box 0 false (.dat TCube (c_1'))), (4, .box 0 false (.dat THeader (h_1'))), (5, .box 0 false (.dat THeader (g_1'))), (7, .box 0 false (.dat THeader (x')))]⟩) x.1 x.2.1 x.2.2 := by kernel_rfl
theorem law06_CubePick.eq (n : Nat) (x : pdens law06_CubePick.ps) : Vi.run (law06_CubePick.C n) n f9 law06_CubePick.ps law06_CubePick.rs x = law06_CubePick n x.1 x.2.1 x.2.2 :=
  (law06_CubePick.run0 n x).trans (congr1 (fun k0 => law06_CubePick.s n k0 x.1 x.2.1 x.2.2) (funext fun v11' => funext fun v12' => funext fun c_1' => funext fun h_1' => funext fun g_1' => funext fun x' => law06_CubePick.l0.eq n v11' c_1' h_1' g_1' n v12' x'))
theorem law06_CubePick.sound (n : Nat) : SoundE prog 9 (law06_CubePick.e n) :=
  soundE_of_run (C := law06_CubePick.C n) (n := n) (law06_CubePick.ok n) func9 (by kernel_rfl) (by kernel_rfl) (fun x r h => (law06_CubePick.eq n x).trans h)
def law06_CubePick.g (n : Nat) (x : pdens (law06_CubePick.τs.map PTy.data)) : Option Bool := law06_CubePick n x.1 x.2.1 x.2.2
theorem law06_CubePick.soundN (n : Nat) : SoundE prog 9 ⟨law06_CubePick.τs.map PTy.data, [.data .bool], law06_CubePick.g n⟩ := law06_CubePick.sound n

def law06_CubeWithin.rs : List RTy := [.data .bool]
def law06_CubeWithin.ps : List PTy := [.data TCube, .data TCube, .data THeader]
noncomputable def law06_CubeWithin.e (n : Nat) : Ent := ⟨law06_CubeWithin.ps, law06_CubeWithin.rs, fun x => law06_CubeWithin n x.1 x.2.1 x.2.2⟩
noncomputable def law06_CubeWithin.C (n : Nat) : Ctx := { tab := tab, fts := fts, Γ := lookO [(31, cube_Meet.e n), (33, cube_Has.e n), (35, cube_Within.e n), (39, cube_Size.e n), (41, cube_Clean.e n), (47, law06_awake.e n)], Γc := lookO [], Γs := lookO [], ntmps := f10.ntmps, keep := Vi.look ([], []) [], pins := [] }
theorem law06_CubeWithin.ok (n : Nat) : CtxOk prog (law06_CubeWithin.C n) := ⟨types, ftsOk_, (fns_cons (cube_Meet.sound n) (fns_cons (cube_Has.sound n) (fns_cons (cube_Within.sound n) (fns_cons (cube_Size.sound n) (fns_cons (cube_Clean.sound n) (fns_cons (law06_awake.sound n) fns_nil)))))), cls_nil, sqs_nil, mixed⟩
theorem law06_CubeWithin.eq (n : Nat) (x : pdens law06_CubeWithin.ps) : Vi.run (law06_CubeWithin.C n) n f10 law06_CubeWithin.ps law06_CubeWithin.rs x = law06_CubeWithin n x.1 x.2.1 x.2.2 := by kernel_rfl
theorem law06_CubeWithin.sound (n : Nat) : SoundE prog 10 (law06_CubeWithin.e n) :=
  soundE_of_run (C := law06_CubeWithin.C n) (n := n) (law06_CubeWithin.ok n) func10 (by kernel_rfl) (by kernel_rfl) (fun x r h => (law06_CubeWithin.eq n x).trans h)
def law06_CubeWithin.g (n : Nat) (x : pdens (law06_CubeWithin.τs.map PTy.data)) : Option Bool := law06_CubeWithin n x.1 x.2.1 x.2.2
theorem law06_CubeWithin.soundN (n : Nat) : SoundE prog 10 ⟨law06_CubeWithin.τs.map PTy.data, [.data .bool], law06_CubeWithin.g n⟩ := law06_CubeWithin.sound n

def carve_Parts_1.es : List Ty := [TCube]
def carve_Parts_1.ps : List PTy := []
def carve_Parts_1.caps : List PTy := [.cptr TCube, .cptr TCube]
noncomputable def carve_Parts_1.e (n : Nat) : Sq := ⟨carve_Parts_1.es, carve_Parts_1.ps, carve_Parts_1.caps, fun x c => carve_Parts_1 n c.1 c.2⟩
noncomputable def carve_Parts_1.C (n : Nat) : Ctx := { tab := tab, fts := fts, Γ := lookO [(21, tern_Bits.e n), (25, tern_Fix.e n), (30, wide_Has.e n), (31, cube_Meet.e n), (41, cube_Clean.e n)], Γc := lookO [], Γs := lookO [], ntmps := f76.ntmps, keep := Vi.look ([], []) [(5, ([0, 4, 27, 28], [4])), (10, ([0, 4, 7, 8, 27, 28, 40, 41, 42], [4, 8]))], pins := [] }
theorem carve_Parts_1.ok (n : Nat) : CtxOk prog (carve_Parts_1.C n) := ⟨types, ftsOk_, (fns_cons (tern_Bits.sound n) (fns_cons (tern_Fix.sound n) (fns_cons (wide_Has.sound n) (fns_cons (cube_Meet.sound n) (fns_cons (cube_Clean.sound n) fns_nil))))), cls_nil, sqs_nil, mixed⟩
noncomputable def carve_Parts_1.code : Code := bodyOf f76
theorem carve_Parts_1.l1.step (n : Nat) (m0 : Nat) (m1 : Nat) (f : Int) (v27_1 : Cube) (v28_1 : Int) (v40 : (List Int)) (v41 : Int) (v42 : Int) (left_1 : Cube) (t : Tern) : it (EmR.seq carve_Parts_1.es) (carve_Parts_1.C n) n (Code.go carve_Parts_1.code [0, 1, 1, 1, 1, 0, 0, 1, 1, 0, 0, 1, 1, 1, 1, 0, 0]) (blockK 2 (blockK 1 (seqK (EmR.seq carve_Parts_1.es) (carve_Parts_1.C n) n (Code.go carve_Parts_1.code [0, 1, 1, 1, 1, 0, 0, 1, 1, 1]) (loopK (EmR.seq carve_Parts_1.es) (carve_Parts_1.C n) n (Code.go carve_Parts_1.code [0, 1, 1, 1, 1, 0, 0]) (blockK 0 (bodyKQ carve_Parts_1.es)) m0)))) (m1 + 1) ⟨[(0, .yld [TCube]), (4, .ptr 4 0 TCube []), (7, .dat (.int .i64) f), (8, .ptr 8 0 TTern []), (27, .dat TCube v27_1), (28, .dat (.int .i64) v28_1), (40, .lst (.tip 100040 0) (.int .i64) v40), (41, .dat (.int .i64) v41), (42, .dat (.int .i64) v42)], [(100040, .tok 0), (4, .box 0 false (.dat TCube left_1)), (8, .box 0 false (.dat TTern t))]⟩ = carve_Parts_1.s1 n (fun (v42' : Int) (left_1' : Cube) => it (EmR.seq carve_Parts_1.es) (carve_Parts_1.C n) n (Code.go carve_Parts_1.code [0, 1, 1, 1, 1, 0, 0, 1, 1, 0, 0, 1, 1, 1, 1, 0, 0]) (blockK 2 (blockK 1 (seqK (EmR.seq carve_Parts_1.es) (carve_Parts_1.C n) n (Code.go carve_Parts_1.code [0, 1, 1, 1, 1, 0, 0, 1, 1, 1]) (loopK (EmR.seq carve_Parts_1.es) (carve_Parts_1.C n) n (Code.go carve_Parts_1.code [0, 1, 1, 1, 1, 0, 0]) (blockK 0 (bodyKQ carve_Parts_1.es)) m0)))) m1 ⟨[(0, .yld [TCube]), (4, .ptr 4 0 TCube []), (7, .dat (.int .i64) f), (8, .ptr 8 0 TTern []), (27, .dat TCube v27_1), (28, .dat (.int .i64) v28_1), (40, .lst (.tip 100040 0) (.int .i64) v40), (41, .dat (.int .i64) v41), (42, .dat (.int .i64) (v42'))], [(100040, .tok 0), (4, .box 0 false (.dat TCube (left_1'))), (8, .box 0 false (.dat TTern t))]⟩) (fun (v27' : Cube) (v28' : Int) (left' : Cube) => it (EmR.seq carve_Parts_1.es) (carve_Parts_1.C n) n (Code.go carve_Parts_1.code [0, 1, 1, 1, 1, 0, 0]) (blockK 0 (bodyKQ carve_Parts_1.es)) m0 ⟨[(0, .yld [TCube]), (4, .ptr 4 0 TCube []), (27, .dat TCube (v27')), (28, .dat (.int .i64) (v28'))], [(4, .box 0 false (.dat TCube (left')))]⟩) f v27_1 v28_1 v40 v41 v42 left_1 t := by kernel_rfl
theorem carve_Parts_1.l1.eq (n : Nat) (m0 : Nat) (f : Int) (v27_1 : Cube) (v28_1 : Int) (v40 : (List Int)) (v41 : Int) (t : Tern) : ∀ (m1 : Nat) (v42 : Int) (left_1 : Cube), it (EmR.seq carve_Parts_1.es) (carve_Parts_1.C n) n (Code.go carve_Parts_1.code [0, 1, 1, 1, 1, 0, 0, 1, 1, 0, 0, 1, 1, 1, 1, 0, 0]) (blockK 2 (blockK 1 (seqK (EmR.seq carve_Parts_1.es) (carve_Parts_1.C n) n (Code.go carve_Parts_1.code [0, 1, 1, 1, 1, 0, 0, 1, 1, 1]) (loopK (EmR.seq carve_Parts_1.es) (carve_Parts_1.C n) n (Code.go carve_Parts_1.code [0, 1, 1, 1, 1, 0, 0]) (blockK 0 (bodyKQ carve_Parts_1.es)) m0)))) m1 ⟨[(0, .yld [TCube]), (4, .ptr 4 0 TCube []), (7, .dat (.int .i64) f), (8, .ptr 8 0 TTern []), (27, .dat TCube v27_1), (28, .dat (.int .i64) v28_1), (40, .lst (.tip 100040 0) (.int .i64) v40), (41, .dat (.int .i64) v41), (42, .dat (.int .i64) v42)], [(100040, .tok 0), (4, .box 0 false (.dat TCube left_1)), (8, .box 0 false (.dat TTern t))]⟩ = carve_Parts_1.l1 n f v27_1 v28_1 v40 v41 t (fun (v27'' : Cube) (v28'' : Int) (left'' : Cube) => it (EmR.seq carve_Parts_1.es) (carve_Parts_1.C n) n (Code.go carve_Parts_1.code [0, 1, 1, 1, 1, 0, 0]) (blockK 0 (bodyKQ carve_Parts_1.es)) m0 ⟨[(0, .yld [TCube]), (4, .ptr 4 0 TCube []), (27, .dat TCube (v27'')), (28, .dat (.int .i64) (v28''))], [(4, .box 0 false (.dat TCube (left'')))]⟩) m1 v42 left_1
  | 0, _, _ => rfl
  | m1 + 1, v42, left_1 =>
    (carve_Parts_1.l1.step n m0 m1 f v27_1 v28_1 v40 v41 v42 left_1 t).trans (congr2 (fun k1 k0 => carve_Parts_1.s1 n k1 k0 f v27_1 v28_1 v40 v41 v42 left_1 t) (funext fun v42' => funext fun left_1' => carve_Parts_1.l1.eq n m0 f v27_1 v28_1 v40 v41 t m1 v42' left_1') rfl)
theorem carve_Parts_1.l0.step (n : Nat) (m0 : Nat) (v27 : Cube) (v28 : Int) (left : Cube) : it (EmR.seq carve_Parts_1.es) (carve_Parts_1.C n) n (Code.go carve_Parts_1.code [0, 1, 1, 1, 1, 0, 0]) (blockK 0 (bodyKQ carve_Parts_1.es)) (m0 + 1) ⟨[(0, .yld [TCube]), (4, .ptr 4 0 TCube []), (27, .dat TCube v27), (28, .dat (.int .i64) v28)], [(4, .box 0 false (.dat TCube left))]⟩ = carve_Parts_1.s0 n (fun (v28' : Int) (left' : Cube) => it (EmR.seq carve_Parts_1.es) (carve_Parts_1.C n) n (Code.go carve_Parts_1.code [0, 1, 1, 1, 1, 0, 0]) (blockK 0 (bodyKQ carve_Parts_1.es)) m0 ⟨[(0, .yld [TCube]), (4, .ptr 4 0 TCube []), (27, .dat TCube v27), (28, .dat (.int .i64) (v28'))], [(4, .box 0 false (.dat TCube (left')))]⟩) (fun (f' : Int) (v27_1' : Cube) (v28_1' : Int) (v40' : (List Int)) (v41' : Int) (v42' : Int) (left_1' : Cube) (t' : Tern) => it (EmR.seq carve_Parts_1.es) (carve_Parts_1.C n) n (Code.go carve_Parts_1.code [0, 1, 1, 1, 1, 0, 0, 1, 1, 0, 0, 1, 1, 1, 1, 0, 0]) (blockK 2 (blockK 1 (seqK (EmR.seq carve_Parts_1.es) (carve_Parts_1.C n) n (Code.go carve_Parts_1.code [0, 1, 1, 1, 1, 0, 0, 1, 1, 1]) (loopK (EmR.seq carve_Parts_1.es) (carve_Parts_1.C n) n (Code.go carve_Parts_1.code [0, 1, 1, 1, 1, 0, 0]) (blockK 0 (bodyKQ carve_Parts_1.es)) m0)))) n ⟨[(0, .yld [TCube]), (4, .ptr 4 0 TCube []), (7, .dat (.int .i64) (f')), (8, .ptr 8 0 TTern []), (27, .dat TCube (v27_1')), (28, .dat (.int .i64) (v28_1')), (40, .lst (.tip 100040 0) (.int .i64) (v40')), (41, .dat (.int .i64) (v41')), (42, .dat (.int .i64) (v42'))], [(100040, .tok 0), (4, .box 0 false (.dat TCube (left_1'))), (8, .box 0 false (.dat TTern (t')))]⟩) v27 v28 left := by kernel_rfl
theorem carve_Parts_1.l0.eq (n : Nat) (v27 : Cube) : ∀ (m0 : Nat) (v28 : Int) (left : Cube), it (EmR.seq carve_Parts_1.es) (carve_Parts_1.C n) n (Code.go carve_Parts_1.code [0, 1, 1, 1, 1, 0, 0]) (blockK 0 (bodyKQ carve_Parts_1.es)) m0 ⟨[(0, .yld [TCube]), (4, .ptr 4 0 TCube []), (27, .dat TCube v27), (28, .dat (.int .i64) v28)], [(4, .box 0 false (.dat TCube left))]⟩ = carve_Parts_1.l0 n v27 m0 v28 left
  | 0, _, _ => rfl
  | m0 + 1, v28, left =>
    (carve_Parts_1.l0.step n m0 v27 v28 left).trans (congr2 (fun k0 k1 => carve_Parts_1.s0 n k0 k1 v27 v28 left) (funext fun v28' => funext fun left' => carve_Parts_1.l0.eq n v27 m0 v28' left') (funext fun f' => funext fun v27_1' => funext fun v28_1' => funext fun v40' => funext fun v41' => funext fun v42' => funext fun left_1' => funext fun t' => (carve_Parts_1.l1.eq n m0 f' v27_1' v28_1' v40' v41' t' n v42' left_1').trans (congr1 (fun kk => carve_Parts_1.l1 n f' v27_1' v28_1' v40' v41' t' kk n v42' left_1') (funext fun v27'' => funext fun v28'' => funext fun left'' => carve_Parts_1.l0.eq n v27'' m0 v28'' left''))))
theorem carve_Parts_1.run0 (n : Nat) (x : pdens carve_Parts_1.ps) (c : pdens carve_Parts_1.caps) : Vi.runQ (carve_Parts_1.C n) n f76 carve_Parts_1.ps carve_Parts_1.es carve_Parts_1.caps x c = carve_Parts_1.s n (fun (v27' : Cube) (v28' : Int) (left' : Cube) => it (EmR.seq carve_Parts_1.es) (carve_Parts_1.C n) n (Code.go carve_Parts_1.code [0, 1, 1, 1, 1, 0, 0]) (blockK 0 (bodyKQ carve_Parts_1.es)) n ⟨[(0, .yld [TCube]), (4, .ptr 4 0 TCube []), (27, .dat TCube (v27')), (28, .dat (.int .i64) (v28'))], [(4, .box 0 false (.dat TCube (left')))]⟩) c.1 c.2 := by kernel_rfl
theorem carve_Parts_1.eq (n : Nat) (x : pdens carve_Parts_1.ps) (c : pdens carve_Parts_1.caps) : Vi.runQ (carve_Parts_1.C n) n f76 carve_Parts_1.ps carve_Parts_1.es carve_Parts_1.caps x c = carve_Parts_1 n c.1 c.2 :=
  (carve_Parts_1.run0 n x c).trans (congr1 (fun k0 => carve_Parts_1.s n k0 c.1 c.2) (funext fun v27' => funext fun v28' => funext fun left' => carve_Parts_1.l0.eq n v27' n v28' left'))
theorem carve_Parts_1.sound (n : Nat) : SoundQ prog 76 (carve_Parts_1.e n) :=
  soundQ_of_run (C := carve_Parts_1.C n) (n := n) (carve_Parts_1.ok n) func76 (by kernel_rfl) (by kernel_rfl) (fun x c r h => (carve_Parts_1.eq n x c).trans h)

def carve_Parts.rs : List RTy := [.seqr [TCube]]
def carve_Parts.ps : List PTy := [.data TCube, .data TCube]
noncomputable def carve_Parts.e (n : Nat) : Ent := ⟨carve_Parts.ps, carve_Parts.rs, fun x => carve_Parts n x.1 x.2⟩
noncomputable def carve_Parts.C (n : Nat) : Ctx := { tab := tab, fts := fts, Γ := lookO [], Γc := lookO [], Γs := lookO [(76, carve_Parts_1.e n)], ntmps := f53.ntmps, keep := Vi.look ([], []) [], pins := [] }
theorem carve_Parts.ok (n : Nat) : CtxOk prog (carve_Parts.C n) := ⟨types, ftsOk_, fns_nil, cls_nil, (sqs_cons (carve_Parts_1.sound n) sqs_nil), mixed⟩
theorem carve_Parts.eq (n : Nat) (x : pdens carve_Parts.ps) : Vi.run (carve_Parts.C n) n f53 carve_Parts.ps carve_Parts.rs x = carve_Parts n x.1 x.2 := by kernel_rfl
theorem carve_Parts.sound (n : Nat) : SoundE prog 53 (carve_Parts.e n) :=
  soundE_of_run (C := carve_Parts.C n) (n := n) (carve_Parts.ok n) func53 (by kernel_rfl) (by kernel_rfl) (fun x r h => (carve_Parts.eq n x).trans h)

def slices_AppendSeq_Cube_nil.rs : List RTy := [.fresh TCube]
def slices_AppendSeq_Cube_nil.ps : List PTy := [.nils TCube, .seqp [TCube]]
noncomputable def slices_AppendSeq_Cube_nil.e (n : Nat) : Ent := ⟨slices_AppendSeq_Cube_nil.ps, slices_AppendSeq_Cube_nil.rs, fun x => slices_AppendSeq_Cube_nil n x.2⟩
noncomputable def slices_AppendSeq_Cube_nil.C (n : Nat) : Ctx := { tab := tab, fts := fts, Γ := lookO [], Γc := lookO [], Γs := lookO [], ntmps := f79.ntmps, keep := Vi.look ([], []) [(100002, ([2], [2]))], pins := [] }
theorem slices_AppendSeq_Cube_nil.ok (n : Nat) : CtxOk prog (slices_AppendSeq_Cube_nil.C n) := ⟨types, ftsOk_, fns_nil, cls_nil, sqs_nil, mixed⟩
noncomputable def slices_AppendSeq_Cube_nil.code : Code := bodyOf f79
theorem slices_AppendSeq_Cube_nil.l0.stepz (n : Nat) (s : (List Cube)) : itS (EmR.no _) (slices_AppendSeq_Cube_nil.C n) n (Code.go slices_AppendSeq_Cube_nil.code [1, 0, 1, 0]) [TCube] [(2, .ptr 2 0 (.slc TCube) [])] (blockK 0 (seqK (EmR.no _) (slices_AppendSeq_Cube_nil.C n) n (Code.go slices_AppendSeq_Cube_nil.code [1, 1]) (bodyK (slices_AppendSeq_Cube_nil.C n) f79 slices_AppendSeq_Cube_nil.rs))) [] [(200002, .tok 0), (2, .box 0 false (.lst (.tip 200002 0) TCube s))] = slices_AppendSeq_Cube_nil.z0 n s := by kernel_rfl
theorem slices_AppendSeq_Cube_nil.l0.step (n : Nat) (xs : (List Cube)) (s : (List Cube)) (x : Cube) : itS (EmR.no _) (slices_AppendSeq_Cube_nil.C n) n (Code.go slices_AppendSeq_Cube_nil.code [1, 0, 1, 0]) [TCube] [(2, .ptr 2 0 (.slc TCube) [])] (blockK 0 (seqK (EmR.no _) (slices_AppendSeq_Cube_nil.C n) n (Code.go slices_AppendSeq_Cube_nil.code [1, 1]) (bodyK (slices_AppendSeq_Cube_nil.C n) f79 slices_AppendSeq_Cube_nil.rs))) (x :: xs) [(200002, .tok 0), (2, .box 0 false (.lst (.tip 200002 0) TCube s))] = slices_AppendSeq_Cube_nil.s0 n (fun (s' : (List Cube)) => itS (EmR.no _) (slices_AppendSeq_Cube_nil.C n) n (Code.go slices_AppendSeq_Cube_nil.code [1, 0, 1, 0]) [TCube] [(2, .ptr 2 0 (.slc TCube) [])] (blockK 0 (seqK (EmR.no _) (slices_AppendSeq_Cube_nil.C n) n (Code.go slices_AppendSeq_Cube_nil.code [1, 1]) (bodyK (slices_AppendSeq_Cube_nil.C n) f79 slices_AppendSeq_Cube_nil.rs))) xs [(200002, .tok 0), (2, .box 0 false (.lst (.tip 200002 0) TCube (s')))]) s x := by kernel_rfl
theorem slices_AppendSeq_Cube_nil.l0.eq (n : Nat) : ∀ (xs : (List Cube)) (s : (List Cube)), itS (EmR.no _) (slices_AppendSeq_Cube_nil.C n) n (Code.go slices_AppendSeq_Cube_nil.code [1, 0, 1, 0]) [TCube] [(2, .ptr 2 0 (.slc TCube) [])] (blockK 0 (seqK (EmR.no _) (slices_AppendSeq_Cube_nil.C n) n (Code.go slices_AppendSeq_Cube_nil.code [1, 1]) (bodyK (slices_AppendSeq_Cube_nil.C n) f79 slices_AppendSeq_Cube_nil.rs))) xs [(200002, .tok 0), (2, .box 0 false (.lst (.tip 200002 0) TCube s))] = slices_AppendSeq_Cube_nil.l0 n xs s
  | [], s => slices_AppendSeq_Cube_nil.l0.stepz n s
  | x :: xs, s => (slices_AppendSeq_Cube_nil.l0.step n xs s x).trans (congr1 (fun k0 => slices_AppendSeq_Cube_nil.s0 n k0 s x) (funext fun s' => slices_AppendSeq_Cube_nil.l0.eq n xs s'))
theorem slices_AppendSeq_Cube_nil.run0 (n : Nat) (x : pdens slices_AppendSeq_Cube_nil.ps) : Vi.run (slices_AppendSeq_Cube_nil.C n) n f79 slices_AppendSeq_Cube_nil.ps slices_AppendSeq_Cube_nil.rs x = slices_AppendSeq_Cube_nil.s n (fun (xs' : (List Cube)) (s' : (List Cube)) => itS (EmR.no _) (slices_AppendSeq_Cube_nil.C n) n (Code.go slices_AppendSeq_Cube_nil.code [1, 0, 1, 0]) [TCube] [(2, .ptr 2 0 (.slc TCube) [])] (blockK 0 (seqK (EmR.no _) (slices_AppendSeq_Cube_nil.C n) n (Code.go slices_AppendSeq_Cube_nil.code [1, 1]) (bodyK (slices_AppendSeq_Cube_nil.C n) f79 slices_AppendSeq_Cube_nil.rs))) xs' [(200002, .tok 0), (2, .box 0 false (.lst (.tip 200002 0) TCube (s')))]) x.2 := by kernel_rfl
theorem slices_AppendSeq_Cube_nil.eq (n : Nat) (x : pdens slices_AppendSeq_Cube_nil.ps) : Vi.run (slices_AppendSeq_Cube_nil.C n) n f79 slices_AppendSeq_Cube_nil.ps slices_AppendSeq_Cube_nil.rs x = slices_AppendSeq_Cube_nil n x.2 :=
  (slices_AppendSeq_Cube_nil.run0 n x).trans (congr1 (fun k0 => slices_AppendSeq_Cube_nil.s n k0 x.2) (funext fun xs' => funext fun s' => slices_AppendSeq_Cube_nil.l0.eq n xs' s'))
theorem slices_AppendSeq_Cube_nil.sound (n : Nat) : SoundE prog 79 (slices_AppendSeq_Cube_nil.e n) :=
  soundE_of_run (C := slices_AppendSeq_Cube_nil.C n) (n := n) (slices_AppendSeq_Cube_nil.ok n) func79 (by kernel_rfl) (by kernel_rfl) (fun x r h => (slices_AppendSeq_Cube_nil.eq n x).trans h)

def slices_Collect_Cube.rs : List RTy := [.fresh TCube]
def slices_Collect_Cube.ps : List PTy := [.seqp [TCube]]
noncomputable def slices_Collect_Cube.e (n : Nat) : Ent := ⟨slices_Collect_Cube.ps, slices_Collect_Cube.rs, fun x => slices_Collect_Cube n x⟩
noncomputable def slices_Collect_Cube.C (n : Nat) : Ctx := { tab := tab, fts := fts, Γ := lookO [(79, slices_AppendSeq_Cube_nil.e n)], Γc := lookO [], Γs := lookO [], ntmps := f75.ntmps, keep := Vi.look ([], []) [], pins := [] }
theorem slices_Collect_Cube.ok (n : Nat) : CtxOk prog (slices_Collect_Cube.C n) := ⟨types, ftsOk_, (fns_cons (slices_AppendSeq_Cube_nil.sound n) fns_nil), cls_nil, sqs_nil, mixed⟩
theorem slices_Collect_Cube.eq (n : Nat) (x : pdens slices_Collect_Cube.ps) : Vi.run (slices_Collect_Cube.C n) n f75 slices_Collect_Cube.ps slices_Collect_Cube.rs x = slices_Collect_Cube n x := by kernel_rfl
theorem slices_Collect_Cube.sound (n : Nat) : SoundE prog 75 (slices_Collect_Cube.e n) :=
  soundE_of_run (C := slices_Collect_Cube.C n) (n := n) (slices_Collect_Cube.ok n) func75 (by kernel_rfl) (by kernel_rfl) (fun x r h => (slices_Collect_Cube.eq n x).trans h)

def carve_List.rs : List RTy := [.fresh TCube]
def carve_List.ps : List PTy := [.data TCube, .data TCube]
noncomputable def carve_List.e (n : Nat) : Ent := ⟨carve_List.ps, carve_List.rs, fun x => carve_List n x.1 x.2⟩
noncomputable def carve_List.C (n : Nat) : Ctx := { tab := tab, fts := fts, Γ := lookO [(53, carve_Parts.e n), (75, slices_Collect_Cube.e n)], Γc := lookO [], Γs := lookO [], ntmps := f51.ntmps, keep := Vi.look ([], []) [], pins := [] }
theorem carve_List.ok (n : Nat) : CtxOk prog (carve_List.C n) := ⟨types, ftsOk_, (fns_cons (carve_Parts.sound n) (fns_cons (slices_Collect_Cube.sound n) fns_nil)), cls_nil, sqs_nil, mixed⟩
theorem carve_List.eq (n : Nat) (x : pdens carve_List.ps) : Vi.run (carve_List.C n) n f51 carve_List.ps carve_List.rs x = carve_List n x.1 x.2 := by kernel_rfl
theorem carve_List.sound (n : Nat) : SoundE prog 51 (carve_List.e n) :=
  soundE_of_run (C := carve_List.C n) (n := n) (carve_List.ok n) func51 (by kernel_rfl) (by kernel_rfl) (fun x r h => (carve_List.eq n x).trans h)

def carve_Many.rs : List RTy := [.data (.int .i64)]
def carve_Many.ps : List PTy := [.data TCube, .data TCube]
noncomputable def carve_Many.e (n : Nat) : Ent := ⟨carve_Many.ps, carve_Many.rs, fun x => carve_Many n x.1 x.2⟩
noncomputable def carve_Many.C (n : Nat) : Ctx := { tab := tab, fts := fts, Γ := lookO [(53, carve_Parts.e n)], Γc := lookO [], Γs := lookO [], ntmps := f56.ntmps, keep := Vi.look ([], []) [(100003, ([5], [5]))], pins := [] }
theorem carve_Many.ok (n : Nat) : CtxOk prog (carve_Many.C n) := ⟨types, ftsOk_, (fns_cons (carve_Parts.sound n) fns_nil), cls_nil, sqs_nil, mixed⟩
noncomputable def carve_Many.code : Code := bodyOf f56
theorem carve_Many.l0.stepz (n : Nat) (n5 : Int) : itS (EmR.no _) (carve_Many.C n) n (Code.go carve_Many.code [1, 1, 0, 1, 0]) [TCube] [(5, .ptr 5 0 (.int .i64) [])] (blockK 0 (seqK (EmR.no _) (carve_Many.C n) n (Code.go carve_Many.code [1, 1, 1]) (bodyK (carve_Many.C n) f56 carve_Many.rs))) [] [(5, .box 0 false (.dat (.int .i64) n5))] = carve_Many.z0 n n5 := by kernel_rfl
theorem carve_Many.l0.step (n : Nat) (xs : (List Cube)) (n5 : Int) (x : Cube) : itS (EmR.no _) (carve_Many.C n) n (Code.go carve_Many.code [1, 1, 0, 1, 0]) [TCube] [(5, .ptr 5 0 (.int .i64) [])] (blockK 0 (seqK (EmR.no _) (carve_Many.C n) n (Code.go carve_Many.code [1, 1, 1]) (bodyK (carve_Many.C n) f56 carve_Many.rs))) (x :: xs) [(5, .box 0 false (.dat (.int .i64) n5))] = carve_Many.s0 n (fun (n5' : Int) => itS (EmR.no _) (carve_Many.C n) n (Code.go carve_Many.code [1, 1, 0, 1, 0]) [TCube] [(5, .ptr 5 0 (.int .i64) [])] (blockK 0 (seqK (EmR.no _) (carve_Many.C n) n (Code.go carve_Many.code [1, 1, 1]) (bodyK (carve_Many.C n) f56 carve_Many.rs))) xs [(5, .box 0 false (.dat (.int .i64) (n5')))]) n5 x := by kernel_rfl
theorem carve_Many.l0.eq (n : Nat) : ∀ (xs : (List Cube)) (n5 : Int), itS (EmR.no _) (carve_Many.C n) n (Code.go carve_Many.code [1, 1, 0, 1, 0]) [TCube] [(5, .ptr 5 0 (.int .i64) [])] (blockK 0 (seqK (EmR.no _) (carve_Many.C n) n (Code.go carve_Many.code [1, 1, 1]) (bodyK (carve_Many.C n) f56 carve_Many.rs))) xs [(5, .box 0 false (.dat (.int .i64) n5))] = carve_Many.l0 n xs n5
  | [], n5 => carve_Many.l0.stepz n n5
  | x :: xs, n5 => (carve_Many.l0.step n xs n5 x).trans (congr1 (fun k0 => carve_Many.s0 n k0 n5 x) (funext fun n5' => carve_Many.l0.eq n xs n5'))
theorem carve_Many.run0 (n : Nat) (x : pdens carve_Many.ps) : Vi.run (carve_Many.C n) n f56 carve_Many.ps carve_Many.rs x = carve_Many.s n (fun (xs' : (List Cube)) (n5' : Int) => itS (EmR.no _) (carve_Many.C n) n (Code.go carve_Many.code [1, 1, 0, 1, 0]) [TCube] [(5, .ptr 5 0 (.int .i64) [])] (blockK 0 (seqK (EmR.no _) (carve_Many.C n) n (Code.go carve_Many.code [1, 1, 1]) (bodyK (carve_Many.C n) f56 carve_Many.rs))) xs' [(5, .box 0 false (.dat (.int .i64) (n5')))]) x.1 x.2 := by kernel_rfl
theorem carve_Many.eq (n : Nat) (x : pdens carve_Many.ps) : Vi.run (carve_Many.C n) n f56 carve_Many.ps carve_Many.rs x = carve_Many n x.1 x.2 :=
  (carve_Many.run0 n x).trans (congr1 (fun k0 => carve_Many.s n k0 x.1 x.2) (funext fun xs' => funext fun n5' => carve_Many.l0.eq n xs' n5'))
theorem carve_Many.sound (n : Nat) : SoundE prog 56 (carve_Many.e n) :=
  soundE_of_run (C := carve_Many.C n) (n := n) (carve_Many.ok n) func56 (by kernel_rfl) (by kernel_rfl) (fun x r h => (carve_Many.eq n x).trans h)

def law07_awake.rs : List RTy := [.data .bool]
def law07_awake.ps : List PTy := []
noncomputable def law07_awake.e (n : Nat) : Ent := ⟨law07_awake.ps, law07_awake.rs, fun x => law07_awake n⟩
noncomputable def law07_awake.C (n : Nat) : Ctx := { tab := tab, fts := fts, Γ := lookO [(45, cube_All.e n), (51, carve_List.e n), (53, carve_Parts.e n), (56, carve_Many.e n)], Γc := lookO [], Γs := lookO [], ntmps := f52.ntmps, keep := Vi.look ([], []) [], pins := [] }
theorem law07_awake.ok (n : Nat) : CtxOk prog (law07_awake.C n) := ⟨types, ftsOk_, (fns_cons (cube_All.sound n) (fns_cons (carve_List.sound n) (fns_cons (carve_Parts.sound n) (fns_cons (carve_Many.sound n) fns_nil)))), cls_nil, sqs_nil, mixed⟩
theorem law07_awake.eq (n : Nat) (x : pdens law07_awake.ps) : Vi.run (law07_awake.C n) n f52 law07_awake.ps law07_awake.rs x = law07_awake n := by kernel_rfl
theorem law07_awake.sound (n : Nat) : SoundE prog 52 (law07_awake.e n) :=
  soundE_of_run (C := law07_awake.C n) (n := n) (law07_awake.ok n) func52 (by kernel_rfl) (by kernel_rfl) (fun x r h => (law07_awake.eq n x).trans h)

def ref07_List.rs : List RTy := [.fresh TCube]
def ref07_List.ps : List PTy := [.data TCube, .data TCube]
noncomputable def ref07_List.e (n : Nat) : Ent := ⟨ref07_List.ps, ref07_List.rs, fun x => ref07_List n x.1 x.2⟩
noncomputable def ref07_List.C (n : Nat) : Ctx := { tab := tab, fts := fts, Γ := lookO [(22, ref05_Bits.e n), (26, ref05_Fix.e n), (32, ref06_Meet.e n), (42, ref06_Clean.e n), (66, ref02_Has.e n)], Γc := lookO [], Γs := lookO [], ntmps := f54.ntmps, keep := Vi.look ([], []) [(7, ([2, 3, 5, 8, 9], [2, 3, 5])), (11, ([2, 3, 5, 8, 9, 10, 11], [2, 3, 5]))], pins := [] }
theorem ref07_List.ok (n : Nat) : CtxOk prog (ref07_List.C n) := ⟨types, ftsOk_, (fns_cons (ref05_Bits.sound n) (fns_cons (ref05_Fix.sound n) (fns_cons (ref06_Meet.sound n) (fns_cons (ref06_Clean.sound n) (fns_cons (ref02_Has.sound n) fns_nil))))), cls_nil, sqs_nil, mixed⟩
noncomputable def ref07_List.code : Code := bodyOf f54
theorem ref07_List.l1.step (n : Nat) (m0 : Nat) (m1 : Nat) (out_1 : (List Cube)) (f_1 : Int) (l : (List Int)) (i : Int) (a_2 : Cube) (b_2 : Cube) (left_1 : Cube) : it (EmR.no _) (ref07_List.C n) n (Code.go ref07_List.code [1, 1, 1, 1, 0, 1, 0, 0, 1, 0, 0, 1, 1, 0, 0]) (blockK 2 (blockK 1 (seqK (EmR.no _) (ref07_List.C n) n (Code.go ref07_List.code [1, 1, 1, 1, 0, 1, 0, 0, 1, 1]) (loopK (EmR.no _) (ref07_List.C n) n (Code.go ref07_List.code [1, 1, 1, 1, 0, 1, 0, 0]) (blockK 0 (seqK (EmR.no _) (ref07_List.C n) n (Code.go ref07_List.code [1, 1, 1, 1, 1]) (bodyK (ref07_List.C n) f54 ref07_List.rs))) m0)))) (m1 + 1) ⟨[(2, .ptr 2 0 TCube []), (3, .ptr 3 0 TCube []), (5, .ptr 5 0 TCube []), (8, .lst (.tip 100008 0) TCube out_1), (9, .dat (.int .i64) f_1), (10, .lst (.tip 100010 0) (.int .i64) l), (11, .dat (.int .i64) i)], [(100008, .tok 0), (100010, .tok 0), (2, .box 0 false (.dat TCube a_2)), (3, .box 0 false (.dat TCube b_2)), (5, .box 0 false (.dat TCube left_1))]⟩ = ref07_List.s1 n (fun (out_1' : (List Cube)) (i' : Int) (left_1' : Cube) => it (EmR.no _) (ref07_List.C n) n (Code.go ref07_List.code [1, 1, 1, 1, 0, 1, 0, 0, 1, 0, 0, 1, 1, 0, 0]) (blockK 2 (blockK 1 (seqK (EmR.no _) (ref07_List.C n) n (Code.go ref07_List.code [1, 1, 1, 1, 0, 1, 0, 0, 1, 1]) (loopK (EmR.no _) (ref07_List.C n) n (Code.go ref07_List.code [1, 1, 1, 1, 0, 1, 0, 0]) (blockK 0 (seqK (EmR.no _) (ref07_List.C n) n (Code.go ref07_List.code [1, 1, 1, 1, 1]) (bodyK (ref07_List.C n) f54 ref07_List.rs))) m0)))) m1 ⟨[(2, .ptr 2 0 TCube []), (3, .ptr 3 0 TCube []), (5, .ptr 5 0 TCube []), (8, .lst (.tip 100008 0) TCube (out_1')), (9, .dat (.int .i64) f_1), (10, .lst (.tip 100010 0) (.int .i64) l), (11, .dat (.int .i64) (i'))], [(100008, .tok 0), (100010, .tok 0), (2, .box 0 false (.dat TCube a_2)), (3, .box 0 false (.dat TCube b_2)), (5, .box 0 false (.dat TCube (left_1')))]⟩) (fun (out' : (List Cube)) (f' : Int) (a_1' : Cube) (b_1' : Cube) (left' : Cube) => it (EmR.no _) (ref07_List.C n) n (Code.go ref07_List.code [1, 1, 1, 1, 0, 1, 0, 0]) (blockK 0 (seqK (EmR.no _) (ref07_List.C n) n (Code.go ref07_List.code [1, 1, 1, 1, 1]) (bodyK (ref07_List.C n) f54 ref07_List.rs))) m0 ⟨[(2, .ptr 2 0 TCube []), (3, .ptr 3 0 TCube []), (5, .ptr 5 0 TCube []), (8, .lst (.tip 100008 0) TCube (out')), (9, .dat (.int .i64) (f'))], [(100008, .tok 0), (2, .box 0 false (.dat TCube (a_1'))), (3, .box 0 false (.dat TCube (b_1'))), (5, .box 0 false (.dat TCube (left')))]⟩) out_1 f_1 l i a_2 b_2 left_1 := by kernel_rfl
theorem ref07_List.l1.eq (n : Nat) (m0 : Nat) (f_1 : Int) (l : (List Int)) (a_2 : Cube) (b_2 : Cube) : ∀ (m1 : Nat) (out_1 : (List Cube)) (i : Int) (left_1 : Cube), it (EmR.no _) (ref07_List.C n) n (Code.go ref07_List.code [1, 1, 1, 1, 0, 1, 0, 0, 1, 0, 0, 1, 1, 0, 0]) (blockK 2 (blockK 1 (seqK (EmR.no _) (ref07_List.C n) n (Code.go ref07_List.code [1, 1, 1, 1, 0, 1, 0, 0, 1, 1]) (loopK (EmR.no _) (ref07_List.C n) n (Code.go ref07_List.code [1, 1, 1, 1, 0, 1, 0, 0]) (blockK 0 (seqK (EmR.no _) (ref07_List.C n) n (Code.go ref07_List.code [1, 1, 1, 1, 1]) (bodyK (ref07_List.C n) f54 ref07_List.rs))) m0)))) m1 ⟨[(2, .ptr 2 0 TCube []), (3, .ptr 3 0 TCube []), (5, .ptr 5 0 TCube []), (8, .lst (.tip 100008 0) TCube out_1), (9, .dat (.int .i64) f_1), (10, .lst (.tip 100010 0) (.int .i64) l), (11, .dat (.int .i64) i)], [(100008, .tok 0), (100010, .tok 0), (2, .box 0 false (.dat TCube a_2)), (3, .box 0 false (.dat TCube b_2)), (5, .box 0 false (.dat TCube left_1))]⟩ = ref07_List.l1 n f_1 l a_2 b_2 (fun (out'' : (List Cube)) (f'' : Int) (a_1'' : Cube) (b_1'' : Cube) (left'' : Cube) => it (EmR.no _) (ref07_List.C n) n (Code.go ref07_List.code [1, 1, 1, 1, 0, 1, 0, 0]) (blockK 0 (seqK (EmR.no _) (ref07_List.C n) n (Code.go ref07_List.code [1, 1, 1, 1, 1]) (bodyK (ref07_List.C n) f54 ref07_List.rs))) m0 ⟨[(2, .ptr 2 0 TCube []), (3, .ptr 3 0 TCube []), (5, .ptr 5 0 TCube []), (8, .lst (.tip 100008 0) TCube (out'')), (9, .dat (.int .i64) (f''))], [(100008, .tok 0), (2, .box 0 false (.dat TCube (a_1''))), (3, .box 0 false (.dat TCube (b_1''))), (5, .box 0 false (.dat TCube (left'')))]⟩) m1 out_1 i left_1
  | 0, _, _, _ => rfl
  | m1 + 1, out_1, i, left_1 =>
    (ref07_List.l1.step n m0 m1 out_1 f_1 l i a_2 b_2 left_1).trans (congr2 (fun k1 k0 => ref07_List.s1 n k1 k0 out_1 f_1 l i a_2 b_2 left_1) (funext fun out_1' => funext fun i' => funext fun left_1' => ref07_List.l1.eq n m0 f_1 l a_2 b_2 m1 out_1' i' left_1') rfl)
theorem ref07_List.l0.step (n : Nat) (m0 : Nat) (out : (List Cube)) (f : Int) (a_1 : Cube) (b_1 : Cube) (left : Cube) : it (EmR.no _) (ref07_List.C n) n (Code.go ref07_List.code [1, 1, 1, 1, 0, 1, 0, 0]) (blockK 0 (seqK (EmR.no _) (ref07_List.C n) n (Code.go ref07_List.code [1, 1, 1, 1, 1]) (bodyK (ref07_List.C n) f54 ref07_List.rs))) (m0 + 1) ⟨[(2, .ptr 2 0 TCube []), (3, .ptr 3 0 TCube []), (5, .ptr 5 0 TCube []), (8, .lst (.tip 100008 0) TCube out), (9, .dat (.int .i64) f)], [(100008, .tok 0), (2, .box 0 false (.dat TCube a_1)), (3, .box 0 false (.dat TCube b_1)), (5, .box 0 false (.dat TCube left))]⟩ = ref07_List.s0 n (fun (out_1' : (List Cube)) (f_1' : Int) (l' : (List Int)) (i' : Int) (a_2' : Cube) (b_2' : Cube) (left_1' : Cube) => it (EmR.no _) (ref07_List.C n) n (Code.go ref07_List.code [1, 1, 1, 1, 0, 1, 0, 0, 1, 0, 0, 1, 1, 0, 0]) (blockK 2 (blockK 1 (seqK (EmR.no _) (ref07_List.C n) n (Code.go ref07_List.code [1, 1, 1, 1, 0, 1, 0, 0, 1, 1]) (loopK (EmR.no _) (ref07_List.C n) n (Code.go ref07_List.code [1, 1, 1, 1, 0, 1, 0, 0]) (blockK 0 (seqK (EmR.no _) (ref07_List.C n) n (Code.go ref07_List.code [1, 1, 1, 1, 1]) (bodyK (ref07_List.C n) f54 ref07_List.rs))) m0)))) n ⟨[(2, .ptr 2 0 TCube []), (3, .ptr 3 0 TCube []), (5, .ptr 5 0 TCube []), (8, .lst (.tip 100008 0) TCube (out_1')), (9, .dat (.int .i64) (f_1')), (10, .lst (.tip 100010 0) (.int .i64) (l')), (11, .dat (.int .i64) (i'))], [(100008, .tok 0), (100010, .tok 0), (2, .box 0 false (.dat TCube (a_2'))), (3, .box 0 false (.dat TCube (b_2'))), (5, .box 0 false (.dat TCube (left_1')))]⟩) out f a_1 b_1 left := by kernel_rfl
theorem ref07_List.l0.eq (n : Nat) (a_1 : Cube) (b_1 : Cube) : ∀ (m0 : Nat) (out : (List Cube)) (f : Int) (left : Cube), it (EmR.no _) (ref07_List.C n) n (Code.go ref07_List.code [1, 1, 1, 1, 0, 1, 0, 0]) (blockK 0 (seqK (EmR.no _) (ref07_List.C n) n (Code.go ref07_List.code [1, 1, 1, 1, 1]) (bodyK (ref07_List.C n) f54 ref07_List.rs))) m0 ⟨[(2, .ptr 2 0 TCube []), (3, .ptr 3 0 TCube []), (5, .ptr 5 0 TCube []), (8, .lst (.tip 100008 0) TCube out), (9, .dat (.int .i64) f)], [(100008, .tok 0), (2, .box 0 false (.dat TCube a_1)), (3, .box 0 false (.dat TCube b_1)), (5, .box 0 false (.dat TCube left))]⟩ = ref07_List.l0 n a_1 b_1 m0 out f left
  | 0, _, _, _ => rfl
  | m0 + 1, out, f, left =>
    (ref07_List.l0.step n m0 out f a_1 b_1 left).trans (congr1 (fun k1 => ref07_List.s0 n k1 out f a_1 b_1 left) (funext fun out_1' => funext fun f_1' => funext fun l' => funext fun i' => funext fun a_2' => funext fun b_2' => funext fun left_1' => (ref07_List.l1.eq n m0 f_1' l' a_2' b_2' n out_1' i' left_1').trans (congr1 (fun kk => ref07_List.l1 n f_1' l' a_2' b_2' kk n out_1' i' left_1') (funext fun out'' => funext fun f'' => funext fun a_1'' => funext fun b_1'' => funext fun left'' => ref07_List.l0.eq n a_1'' b_1'' m0 out'' f'' left''))))
theorem ref07_List.run0 (n : Nat) (x : pdens ref07_List.ps) : Vi.run (ref07_List.C n) n f54 ref07_List.ps ref07_List.rs x = ref07_List.s n (fun (out' : (List Cube)) (f' : Int) (a_1' : Cube) (b_1' : Cube) (left' : Cube) => it (EmR.no _) (ref07_List.C n) n (Code.go ref07_List.code [1, 1, 1, 1, 0, 1, 0, 0]) (blockK 0 (seqK (EmR.no _) (ref07_List.C n) n (Code.go ref07_List.code [1, 1, 1, 1, 1]) (bodyK (ref07_List.C n) f54 ref07_List.rs))) n ⟨[(2, .ptr 2 0 TCube []), (3, .ptr 3 0 TCube []), (5, .ptr 5 0 TCube []), (8, .lst (.tip 100008 0) TCube (out')), (9, .dat (.int .i64) (f'))], [(100008, .tok 0), (2, .box 0 false (.dat TCube (a_1'))), (3, .box 0 false (.dat TCube (b_1'))), (5, .box 0 false (.dat TCube (left')))]⟩) x.1 x.2 := by kernel_rfl
theorem ref07_List.eq (n : Nat) (x : pdens ref07_List.ps) : Vi.run (ref07_List.C n) n f54 ref07_List.ps ref07_List.rs x = ref07_List n x.1 x.2 :=
  (ref07_List.run0 n x).trans (congr1 (fun k0 => ref07_List.s n k0 x.1 x.2) (funext fun out' => funext fun f' => funext fun a_1' => funext fun b_1' => funext fun left' => ref07_List.l0.eq n a_1' b_1' n out' f' left'))
theorem ref07_List.sound (n : Nat) : SoundE prog 54 (ref07_List.e n) :=
  soundE_of_run (C := ref07_List.C n) (n := n) (ref07_List.ok n) func54 (by kernel_rfl) (by kernel_rfl) (fun x r h => (ref07_List.eq n x).trans h)

def slices_Equal_Cube.rs : List RTy := [.data .bool]
def slices_Equal_Cube.ps : List PTy := [.data (.slc TCube), .data (.slc TCube)]
noncomputable def slices_Equal_Cube.e (n : Nat) : Ent := ⟨slices_Equal_Cube.ps, slices_Equal_Cube.rs, fun x => slices_Equal_Cube n x.1 x.2⟩
noncomputable def slices_Equal_Cube.C (n : Nat) : Ctx := { tab := tab, fts := fts, Γ := lookO [], Γc := lookO [], Γs := lookO [], ntmps := f55.ntmps, keep := Vi.look ([], []) [(4, ([0, 1, 12, 13], []))], pins := [] }
theorem slices_Equal_Cube.ok (n : Nat) : CtxOk prog (slices_Equal_Cube.C n) := ⟨types, ftsOk_, fns_nil, cls_nil, sqs_nil, mixed⟩
noncomputable def slices_Equal_Cube.code : Code := bodyOf f55
theorem slices_Equal_Cube.l0.step (n : Nat) (m0 : Nat) (s1_1 : (List Cube)) (s2_1 : (List Cube)) (v12 : Int) (v13 : Int) : it (EmR.no _) (slices_Equal_Cube.C n) n (Code.go slices_Equal_Cube.code [1, 1, 0, 1, 0, 0]) (blockK 0 (seqK (EmR.no _) (slices_Equal_Cube.C n) n (Code.go slices_Equal_Cube.code [1, 1, 1]) (bodyK (slices_Equal_Cube.C n) f55 slices_Equal_Cube.rs))) (m0 + 1) ⟨[(0, .dat (.slc TCube) s1_1), (1, .dat (.slc TCube) s2_1), (12, .dat (.int .i64) v12), (13, .dat (.int .i64) v13)], []⟩ = slices_Equal_Cube.s0 n (fun (v13' : Int) => it (EmR.no _) (slices_Equal_Cube.C n) n (Code.go slices_Equal_Cube.code [1, 1, 0, 1, 0, 0]) (blockK 0 (seqK (EmR.no _) (slices_Equal_Cube.C n) n (Code.go slices_Equal_Cube.code [1, 1, 1]) (bodyK (slices_Equal_Cube.C n) f55 slices_Equal_Cube.rs))) m0 ⟨[(0, .dat (.slc TCube) s1_1), (1, .dat (.slc TCube) s2_1), (12, .dat (.int .i64) v12), (13, .dat (.int .i64) (v13'))], []⟩) s1_1 s2_1 v12 v13 := by kernel_rfl
theorem slices_Equal_Cube.l0.eq (n : Nat) (s1_1 : (List Cube)) (s2_1 : (List Cube)) (v12 : Int) : ∀ (m0 : Nat) (v13 : Int), it (EmR.no _) (slices_Equal_Cube.C n) n (Code.go slices_Equal_Cube.code [1, 1, 0, 1, 0, 0]) (blockK 0 (seqK (EmR.no _) (slices_Equal_Cube.C n) n (Code.go slices_Equal_Cube.code [1, 1, 1]) (bodyK (slices_Equal_Cube.C n) f55 slices_Equal_Cube.rs))) m0 ⟨[(0, .dat (.slc TCube) s1_1), (1, .dat (.slc TCube) s2_1), (12, .dat (.int .i64) v12), (13, .dat (.int .i64) v13)], []⟩ = slices_Equal_Cube.l0 n s1_1 s2_1 v12 m0 v13
  | 0, _ => rfl
  | m0 + 1, v13 =>
    (slices_Equal_Cube.l0.step n m0 s1_1 s2_1 v12 v13).trans (congr1 (fun k0 => slices_Equal_Cube.s0 n k0 s1_1 s2_1 v12 v13) (funext fun v13' => slices_Equal_Cube.l0.eq n s1_1 s2_1 v12 m0 v13'))
theorem slices_Equal_Cube.run0 (n : Nat) (x : pdens slices_Equal_Cube.ps) : Vi.run (slices_Equal_Cube.C n) n f55 slices_Equal_Cube.ps slices_Equal_Cube.rs x = slices_Equal_Cube.s n (fun (s1_1' : (List Cube)) (s2_1' : (List Cube)) (v12' : Int) (v13' : Int) => it (EmR.no _) (slices_Equal_Cube.C n) n (Code.go slices_Equal_Cube.code [1, 1, 0, 1, 0, 0]) (blockK 0 (seqK (EmR.no _) (slices_Equal_Cube.C n) n (Code.go slices_Equal_Cube.code [1, 1, 1]) (bodyK (slices_Equal_Cube.C n) f55 slices_Equal_Cube.rs))) n ⟨[(0, .dat (.slc TCube) (s1_1')), (1, .dat (.slc TCube) (s2_1')), (12, .dat (.int .i64) (v12')), (13, .dat (.int .i64) (v13'))], []⟩) x.1 x.2 := by kernel_rfl
theorem slices_Equal_Cube.eq (n : Nat) (x : pdens slices_Equal_Cube.ps) : Vi.run (slices_Equal_Cube.C n) n f55 slices_Equal_Cube.ps slices_Equal_Cube.rs x = slices_Equal_Cube n x.1 x.2 :=
  (slices_Equal_Cube.run0 n x).trans (congr1 (fun k0 => slices_Equal_Cube.s n k0 x.1 x.2) (funext fun s1_1' => funext fun s2_1' => funext fun v12' => funext fun v13' => slices_Equal_Cube.l0.eq n s1_1' s2_1' v12' n v13'))
theorem slices_Equal_Cube.sound (n : Nat) : SoundE prog 55 (slices_Equal_Cube.e n) :=
  soundE_of_run (C := slices_Equal_Cube.C n) (n := n) (slices_Equal_Cube.ok n) func55 (by kernel_rfl) (by kernel_rfl) (fun x r h => (slices_Equal_Cube.eq n x).trans h)

def law07_all.rs : List RTy := [.fresh TCube]
def law07_all.ps : List PTy := [.data TCube, .data TCube]
noncomputable def law07_all.e (n : Nat) : Ent := ⟨law07_all.ps, law07_all.rs, fun x => law07_all n x.1 x.2⟩
noncomputable def law07_all.C (n : Nat) : Ctx := { tab := tab, fts := fts, Γ := lookO [(53, carve_Parts.e n)], Γc := lookO [], Γs := lookO [], ntmps := f57.ntmps, keep := Vi.look ([], []) [(100003, ([5], [5]))], pins := [] }
theorem law07_all.ok (n : Nat) : CtxOk prog (law07_all.C n) := ⟨types, ftsOk_, (fns_cons (carve_Parts.sound n) fns_nil), cls_nil, sqs_nil, mixed⟩
noncomputable def law07_all.code : Code := bodyOf f57
theorem law07_all.l0.stepz (n : Nat) (out : (List Cube)) : itS (EmR.no _) (law07_all.C n) n (Code.go law07_all.code [1, 1, 0, 1, 0]) [TCube] [(5, .ptr 5 0 (.slc TCube) [])] (blockK 0 (seqK (EmR.no _) (law07_all.C n) n (Code.go law07_all.code [1, 1, 1]) (bodyK (law07_all.C n) f57 law07_all.rs))) [] [(200005, .tok 0), (5, .box 0 false (.lst (.tip 200005 0) TCube out))] = law07_all.z0 n out := by kernel_rfl
theorem law07_all.l0.step (n : Nat) (xs : (List Cube)) (out : (List Cube)) (x : Cube) : itS (EmR.no _) (law07_all.C n) n (Code.go law07_all.code [1, 1, 0, 1, 0]) [TCube] [(5, .ptr 5 0 (.slc TCube) [])] (blockK 0 (seqK (EmR.no _) (law07_all.C n) n (Code.go law07_all.code [1, 1, 1]) (bodyK (law07_all.C n) f57 law07_all.rs))) (x :: xs) [(200005, .tok 0), (5, .box 0 false (.lst (.tip 200005 0) TCube out))] = law07_all.s0 n (fun (out' : (List Cube)) => itS (EmR.no _) (law07_all.C n) n (Code.go law07_all.code [1, 1, 0, 1, 0]) [TCube] [(5, .ptr 5 0 (.slc TCube) [])] (blockK 0 (seqK (EmR.no _) (law07_all.C n) n (Code.go law07_all.code [1, 1, 1]) (bodyK (law07_all.C n) f57 law07_all.rs))) xs [(200005, .tok 0), (5, .box 0 false (.lst (.tip 200005 0) TCube (out')))]) out x := by kernel_rfl
theorem law07_all.l0.eq (n : Nat) : ∀ (xs : (List Cube)) (out : (List Cube)), itS (EmR.no _) (law07_all.C n) n (Code.go law07_all.code [1, 1, 0, 1, 0]) [TCube] [(5, .ptr 5 0 (.slc TCube) [])] (blockK 0 (seqK (EmR.no _) (law07_all.C n) n (Code.go law07_all.code [1, 1, 1]) (bodyK (law07_all.C n) f57 law07_all.rs))) xs [(200005, .tok 0), (5, .box 0 false (.lst (.tip 200005 0) TCube out))] = law07_all.l0 n xs out
  | [], out => law07_all.l0.stepz n out
  | x :: xs, out => (law07_all.l0.step n xs out x).trans (congr1 (fun k0 => law07_all.s0 n k0 out x) (funext fun out' => law07_all.l0.eq n xs out'))
theorem law07_all.run0 (n : Nat) (x : pdens law07_all.ps) : Vi.run (law07_all.C n) n f57 law07_all.ps law07_all.rs x = law07_all.s n (fun (xs' : (List Cube)) (out' : (List Cube)) => itS (EmR.no _) (law07_all.C n) n (Code.go law07_all.code [1, 1, 0, 1, 0]) [TCube] [(5, .ptr 5 0 (.slc TCube) [])] (blockK 0 (seqK (EmR.no _) (law07_all.C n) n (Code.go law07_all.code [1, 1, 1]) (bodyK (law07_all.C n) f57 law07_all.rs))) xs' [(200005, .tok 0), (5, .box 0 false (.lst (.tip 200005 0) TCube (out')))]) x.1 x.2 := by kernel_rfl
theorem law07_all.eq (n : Nat) (x : pdens law07_all.ps) : Vi.run (law07_all.C n) n f57 law07_all.ps law07_all.rs x = law07_all n x.1 x.2 :=
  (law07_all.run0 n x).trans (congr1 (fun k0 => law07_all.s n k0 x.1 x.2) (funext fun xs' => funext fun out' => law07_all.l0.eq n xs' out'))
theorem law07_all.sound (n : Nat) : SoundE prog 57 (law07_all.e n) :=
  soundE_of_run (C := law07_all.C n) (n := n) (law07_all.ok n) func57 (by kernel_rfl) (by kernel_rfl) (fun x r h => (law07_all.eq n x).trans h)

def law07_CarveTells.rs : List RTy := [.data .bool]
def law07_CarveTells.ps : List PTy := [.data TCube, .data TCube]
noncomputable def law07_CarveTells.e (n : Nat) : Ent := ⟨law07_CarveTells.ps, law07_CarveTells.rs, fun x => law07_CarveTells n x.1 x.2⟩
noncomputable def law07_CarveTells.C (n : Nat) : Ctx := { tab := tab, fts := fts, Γ := lookO [(51, carve_List.e n), (52, law07_awake.e n), (53, carve_Parts.e n), (54, ref07_List.e n), (55, slices_Equal_Cube.e n), (56, carve_Many.e n), (57, law07_all.e n)], Γc := lookO [], Γs := lookO [], ntmps := f12.ntmps, keep := Vi.look ([], []) [], pins := [] }
theorem law07_CarveTells.ok (n : Nat) : CtxOk prog (law07_CarveTells.C n) := ⟨types, ftsOk_, (fns_cons (carve_List.sound n) (fns_cons (law07_awake.sound n) (fns_cons (carve_Parts.sound n) (fns_cons (ref07_List.sound n) (fns_cons (slices_Equal_Cube.sound n) (fns_cons (carve_Many.sound n) (fns_cons (law07_all.sound n) fns_nil))))))), cls_nil, sqs_nil, mixed⟩
theorem law07_CarveTells.eq (n : Nat) (x : pdens law07_CarveTells.ps) : Vi.run (law07_CarveTells.C n) n f12 law07_CarveTells.ps law07_CarveTells.rs x = law07_CarveTells n x.1 x.2 := by kernel_rfl
theorem law07_CarveTells.sound (n : Nat) : SoundE prog 12 (law07_CarveTells.e n) :=
  soundE_of_run (C := law07_CarveTells.C n) (n := n) (law07_CarveTells.ok n) func12 (by kernel_rfl) (by kernel_rfl) (fun x r h => (law07_CarveTells.eq n x).trans h)
def law07_CarveTells.g (n : Nat) (x : pdens (law07_CarveTells.τs.map PTy.data)) : Option Bool := law07_CarveTells n x.1 x.2
theorem law07_CarveTells.soundN (n : Nat) : SoundE prog 12 ⟨law07_CarveTells.τs.map PTy.data, [.data .bool], law07_CarveTells.g n⟩ := law07_CarveTells.sound n

def law07_CarveApart.rs : List RTy := [.data .bool]
def law07_CarveApart.ps : List PTy := [.data TCube, .data TCube, .data THeader]
noncomputable def law07_CarveApart.e (n : Nat) : Ent := ⟨law07_CarveApart.ps, law07_CarveApart.rs, fun x => law07_CarveApart n x.1 x.2.1 x.2.2⟩
noncomputable def law07_CarveApart.C (n : Nat) : Ctx := { tab := tab, fts := fts, Γ := lookO [(33, cube_Has.e n), (51, carve_List.e n), (52, law07_awake.e n)], Γc := lookO [], Γs := lookO [], ntmps := f11.ntmps, keep := Vi.look ([], []) [(3, ([3, 4, 5, 7, 12, 13, 14], [3, 4, 5]))], pins := [] }
theorem law07_CarveApart.ok (n : Nat) : CtxOk prog (law07_CarveApart.C n) := ⟨types, ftsOk_, (fns_cons (cube_Has.sound n) (fns_cons (carve_List.sound n) (fns_cons (law07_awake.sound n) fns_nil))), cls_nil, sqs_nil, mixed⟩
noncomputable def law07_CarveApart.code : Code := bodyOf f11
theorem law07_CarveApart.l0.step (n : Nat) (m0 : Nat) (n7 : Int) (v12 : (List Cube)) (v13 : Int) (v14 : Int) (a_1 : Cube) (b_1 : Cube) (h_1 : Header) : it (EmR.no _) (law07_CarveApart.C n) n (Code.go law07_CarveApart.code [1, 1, 0, 1, 0, 0]) (blockK 0 (seqK (EmR.no _) (law07_CarveApart.C n) n (Code.go law07_CarveApart.code [1, 1, 1]) (bodyK (law07_CarveApart.C n) f11 law07_CarveApart.rs))) (m0 + 1) ⟨[(3, .ptr 3 0 TCube []), (4, .ptr 4 0 TCube []), (5, .ptr 5 0 THeader []), (7, .dat (.int .i64) n7), (12, .lst (.tip 100012 0) TCube v12), (13, .dat (.int .i64) v13), (14, .dat (.int .i64) v14)], [(100012, .tok 0), (3, .box 0 false (.dat TCube a_1)), (4, .box 0 false (.dat TCube b_1)), (5, .box 0 false (.dat THeader h_1))]⟩ = law07_CarveApart.s0 n (fun (n7' : Int) (v14' : Int) => it (EmR.no _) (law07_CarveApart.C n) n (Code.go law07_CarveApart.code [1, 1, 0, 1, 0, 0]) (blockK 0 (seqK (EmR.no _) (law07_CarveApart.C n) n (Code.go law07_CarveApart.code [1, 1, 1]) (bodyK (law07_CarveApart.C n) f11 law07_CarveApart.rs))) m0 ⟨[(3, .ptr 3 0 TCube []), (4, .ptr 4 0 TCube []), (5, .ptr 5 0 THeader []), (7, .dat (.int .i64) (n7')), (12, .lst (.tip 100012 0) TCube v12), (13, .dat (.int .i64) v13), (14, .dat (.int .i64) (v14'))], [(100012, .tok 0), (3, .box 0 false (.dat TCube a_1)), (4, .box 0 false (.dat TCube b_1)), (5, .box 0 false (.dat THeader h_1))]⟩) n7 v12 v13 v14 a_1 b_1 h_1 := by kernel_rfl
theorem law07_CarveApart.l0.eq (n : Nat) (v12 : (List Cube)) (v13 : Int) (a_1 : Cube) (b_1 : Cube) (h_1 : Header) : ∀ (m0 : Nat) (n7 : Int) (v14 : Int), it (EmR.no _) (law07_CarveApart.C n) n (Code.go law07_CarveApart.code [1, 1, 0, 1, 0, 0]) (blockK 0 (seqK (EmR.no _) (law07_CarveApart.C n) n (Code.go law07_CarveApart.code [1, 1, 1]) (bodyK (law07_CarveApart.C n) f11 law07_CarveApart.rs))) m0 ⟨[(3, .ptr 3 0 TCube []), (4, .ptr 4 0 TCube []), (5, .ptr 5 0 THeader []), (7, .dat (.int .i64) n7), (12, .lst (.tip 100012 0) TCube v12), (13, .dat (.int .i64) v13), (14, .dat (.int .i64) v14)], [(100012, .tok 0), (3, .box 0 false (.dat TCube a_1)), (4, .box 0 false (.dat TCube b_1)), (5, .box 0 false (.dat THeader h_1))]⟩ = law07_CarveApart.l0 n v12 v13 a_1 b_1 h_1 m0 n7 v14
  | 0, _, _ => rfl
  | m0 + 1, n7, v14 =>
    (law07_CarveApart.l0.step n m0 n7 v12 v13 v14 a_1 b_1 h_1).trans (congr1 (fun k0 => law07_CarveApart.s0 n k0 n7 v12 v13 v14 a_1 b_1 h_1) (funext fun n7' => funext fun v14' => law07_CarveApart.l0.eq n v12 v13 a_1 b_1 h_1 m0 n7' v14'))
theorem law07_CarveApart.run0 (n : Nat) (x : pdens law07_CarveApart.ps) : Vi.run (law07_CarveApart.C n) n f11 law07_CarveApart.ps law07_CarveApart.rs x = law07_CarveApart.s n (fun (n7' : Int) (v12' : (List Cube)) (v13' : Int) (v14' : Int) (a_1' : Cube) (b_1' : Cube) (h_1' : Header) => it (EmR.no _) (law07_CarveApart.C n) n (Code.go law07_CarveApart.code [1, 1, 0, 1, 0, 0]) (blockK 0 (seqK (EmR.no _) (law07_CarveApart.C n) n (Code.go law07_CarveApart.code [1, 1, 1]) (bodyK (law07_CarveApart.C n) f11 law07_CarveApart.rs))) n ⟨[(3, .ptr 3 0 TCube []), (4, .ptr 4 0 TCube []), (5, .ptr 5 0 THeader []), (7, .dat (.int .i64) (n7')), (12, .lst (.tip 100012 0) TCube (v12')), (13, .dat (.int .i64) (v13')), (14, .dat (.int .i64) (v14'))], [(100012, .tok 0), (3, .box 0 false (.dat TCube (a_1'))), (4, .box 0 false (.dat TCube (b_1'))), (5, .box 0 false (.dat THeader (h_1')))]⟩) x.1 x.2.1 x.2.2 := by kernel_rfl
theorem law07_CarveApart.eq (n : Nat) (x : pdens law07_CarveApart.ps) : Vi.run (law07_CarveApart.C n) n f11 law07_CarveApart.ps law07_CarveApart.rs x = law07_CarveApart n x.1 x.2.1 x.2.2 :=
  (law07_CarveApart.run0 n x).trans (congr1 (fun k0 => law07_CarveApart.s n k0 x.1 x.2.1 x.2.2) (funext fun n7' => funext fun v12' => funext fun v13' => funext fun v14' => funext fun a_1' => funext fun b_1' => funext fun h_1' => law07_CarveApart.l0.eq n v12' v13' a_1' b_1' h_1' n n7' v14'))
theorem law07_CarveApart.sound (n : Nat) : SoundE prog 11 (law07_CarveApart.e n) :=
  soundE_of_run (C := law07_CarveApart.C n) (n := n) (law07_CarveApart.ok n) func11 (by kernel_rfl) (by kernel_rfl) (fun x r h => (law07_CarveApart.eq n x).trans h)
def law07_CarveApart.g (n : Nat) (x : pdens (law07_CarveApart.τs.map PTy.data)) : Option Bool := law07_CarveApart n x.1 x.2.1 x.2.2
theorem law07_CarveApart.soundN (n : Nat) : SoundE prog 11 ⟨law07_CarveApart.τs.map PTy.data, [.data .bool], law07_CarveApart.g n⟩ := law07_CarveApart.sound n

def law07_CarveStops.rs : List RTy := [.data .bool]
def law07_CarveStops.ps : List PTy := [.data TCube, .data TCube, .data (.int .u8)]
noncomputable def law07_CarveStops.e (n : Nat) : Ent := ⟨law07_CarveStops.ps, law07_CarveStops.rs, fun x => law07_CarveStops n x.1 x.2.1 x.2.2⟩
noncomputable def law07_CarveStops.C (n : Nat) : Ctx := { tab := tab, fts := fts, Γ := lookO [(51, carve_List.e n), (52, law07_awake.e n), (53, carve_Parts.e n), (55, slices_Equal_Cube.e n)], Γc := lookO [], Γs := lookO [], ntmps := f13.ntmps, keep := Vi.look ([], []) [(100005, ([3, 4, 5, 7], [3, 4, 5, 7]))], pins := [] }
theorem law07_CarveStops.ok (n : Nat) : CtxOk prog (law07_CarveStops.C n) := ⟨types, ftsOk_, (fns_cons (carve_List.sound n) (fns_cons (law07_awake.sound n) (fns_cons (carve_Parts.sound n) (fns_cons (slices_Equal_Cube.sound n) fns_nil)))), cls_nil, sqs_nil, mixed⟩
noncomputable def law07_CarveStops.code : Code := bodyOf f13
theorem law07_CarveStops.l0.stepz (n : Nat) (a_1 : Cube) (b_1 : Cube) (k5 : Int) (out : (List Cube)) : itS (EmR.no _) (law07_CarveStops.C n) n (Code.go law07_CarveStops.code [1, 1, 1, 0, 1, 0]) [TCube] [(3, .ptr 3 0 TCube []), (4, .ptr 4 0 TCube []), (5, .ptr 5 0 (.int .u8) []), (7, .ptr 7 0 (.slc TCube) [])] (blockK 0 (seqK (EmR.no _) (law07_CarveStops.C n) n (Code.go law07_CarveStops.code [1, 1, 1, 1]) (bodyK (law07_CarveStops.C n) f13 law07_CarveStops.rs))) [] [(200007, .tok 0), (3, .box 0 false (.dat TCube a_1)), (4, .box 0 false (.dat TCube b_1)), (5, .box 0 false (.dat (.int .u8) k5)), (7, .box 0 false (.lst (.tip 200007 0) TCube out))] = law07_CarveStops.z0 n a_1 b_1 k5 out := by kernel_rfl
theorem law07_CarveStops.l0.step (n : Nat) (xs : (List Cube)) (a_1 : Cube) (b_1 : Cube) (k5 : Int) (out : (List Cube)) (x : Cube) : itS (EmR.no _) (law07_CarveStops.C n) n (Code.go law07_CarveStops.code [1, 1, 1, 0, 1, 0]) [TCube] [(3, .ptr 3 0 TCube []), (4, .ptr 4 0 TCube []), (5, .ptr 5 0 (.int .u8) []), (7, .ptr 7 0 (.slc TCube) [])] (blockK 0 (seqK (EmR.no _) (law07_CarveStops.C n) n (Code.go law07_CarveStops.code [1, 1, 1, 1]) (bodyK (law07_CarveStops.C n) f13 law07_CarveStops.rs))) (x :: xs) [(200007, .tok 0), (3, .box 0 false (.dat TCube a_1)), (4, .box 0 false (.dat TCube b_1)), (5, .box 0 false (.dat (.int .u8) k5)), (7, .box 0 false (.lst (.tip 200007 0) TCube out))] = law07_CarveStops.s0 n (fun (out' : (List Cube)) => itS (EmR.no _) (law07_CarveStops.C n) n (Code.go law07_CarveStops.code [1, 1, 1, 0, 1, 0]) [TCube] [(3, .ptr 3 0 TCube []), (4, .ptr 4 0 TCube []), (5, .ptr 5 0 (.int .u8) []), (7, .ptr 7 0 (.slc TCube) [])] (blockK 0 (seqK (EmR.no _) (law07_CarveStops.C n) n (Code.go law07_CarveStops.code [1, 1, 1, 1]) (bodyK (law07_CarveStops.C n) f13 law07_CarveStops.rs))) xs [(200007, .tok 0), (3, .box 0 false (.dat TCube a_1)), (4, .box 0 false (.dat TCube b_1)), (5, .box 0 false (.dat (.int .u8) k5)), (7, .box 0 false (.lst (.tip 200007 0) TCube (out')))]) a_1 b_1 k5 out x := by kernel_rfl
theorem law07_CarveStops.l0.eq (n : Nat) (a_1 : Cube) (b_1 : Cube) (k5 : Int) : ∀ (xs : (List Cube)) (out : (List Cube)), itS (EmR.no _) (law07_CarveStops.C n) n (Code.go law07_CarveStops.code [1, 1, 1, 0, 1, 0]) [TCube] [(3, .ptr 3 0 TCube []), (4, .ptr 4 0 TCube []), (5, .ptr 5 0 (.int .u8) []), (7, .ptr 7 0 (.slc TCube) [])] (blockK 0 (seqK (EmR.no _) (law07_CarveStops.C n) n (Code.go law07_CarveStops.code [1, 1, 1, 1]) (bodyK (law07_CarveStops.C n) f13 law07_CarveStops.rs))) xs [(200007, .tok 0), (3, .box 0 false (.dat TCube a_1)), (4, .box 0 false (.dat TCube b_1)), (5, .box 0 false (.dat (.int .u8) k5)), (7, .box 0 false (.lst (.tip 200007 0) TCube out))] = law07_CarveStops.l0 n a_1 b_1 k5 xs out
  | [], out => law07_CarveStops.l0.stepz n a_1 b_1 k5 out
  | x :: xs, out => (law07_CarveStops.l0.step n xs a_1 b_1 k5 out x).trans (congr1 (fun k0 => law07_CarveStops.s0 n k0 a_1 b_1 k5 out x) (funext fun out' => law07_CarveStops.l0.eq n a_1 b_1 k5 xs out'))
theorem law07_CarveStops.run0 (n : Nat) (x : pdens law07_CarveStops.ps) : Vi.run (law07_CarveStops.C n) n f13 law07_CarveStops.ps law07_CarveStops.rs x = law07_CarveStops.s n (fun (xs' : (List Cube)) (a_1' : Cube) (b_1' : Cube) (k5' : Int) (out' : (List Cube)) => itS (EmR.no _) (law07_CarveStops.C n) n (Code.go law07_CarveStops.code [1, 1, 1, 0, 1, 0]) [TCube] [(3, .ptr 3 0 TCube []), (4, .ptr 4 0 TCube []), (5, .ptr 5 0 (.int .u8) []), (7, .ptr 7 0 (.slc TCube) [])] (blockK 0 (seqK (EmR.no _) (law07_CarveStops.C n) n (Code.go law07_CarveStops.code [1, 1, 1, 1]) (bodyK (law07_CarveStops.C n) f13 law07_CarveStops.rs))) xs' [(200007, .tok 0), (3, .box 0 false (.dat TCube (a_1'))), (4, .box 0 false (.dat TCube (b_1'))), (5, .box 0 false (.dat (.int .u8) (k5'))), (7, .box 0 false (.lst (.tip 200007 0) TCube (out')))]) x.1 x.2.1 x.2.2 := by kernel_rfl
theorem law07_CarveStops.eq (n : Nat) (x : pdens law07_CarveStops.ps) : Vi.run (law07_CarveStops.C n) n f13 law07_CarveStops.ps law07_CarveStops.rs x = law07_CarveStops n x.1 x.2.1 x.2.2 :=
  (law07_CarveStops.run0 n x).trans (congr1 (fun k0 => law07_CarveStops.s n k0 x.1 x.2.1 x.2.2) (funext fun xs' => funext fun a_1' => funext fun b_1' => funext fun k5' => funext fun out' => law07_CarveStops.l0.eq n a_1' b_1' k5' xs' out'))
theorem law07_CarveStops.sound (n : Nat) : SoundE prog 13 (law07_CarveStops.e n) :=
  soundE_of_run (C := law07_CarveStops.C n) (n := n) (law07_CarveStops.ok n) func13 (by kernel_rfl) (by kernel_rfl) (fun x r h => (law07_CarveStops.eq n x).trans h)
def law07_CarveStops.g (n : Nat) (x : pdens (law07_CarveStops.τs.map PTy.data)) : Option Bool := law07_CarveStops n x.1 x.2.1 x.2.2
theorem law07_CarveStops.soundN (n : Nat) : SoundE prog 13 ⟨law07_CarveStops.τs.map PTy.data, [.data .bool], law07_CarveStops.g n⟩ := law07_CarveStops.sound n

end Go.Fn
