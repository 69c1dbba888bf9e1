/- What the functions compute, as native texts: written by the session's program gen.py out of the translation. -/
import Derived.Test.YtagpigbfbhdoiaaViB
set_option linter.unusedVariables false
namespace Go.Fn
open Go Go.Vi

abbrev Wide := (Int × Int)
abbrev TWide : Ty := (.pair (.int .u64) (.int .u64))
abbrev Purse := (Int × Bool)
abbrev TPurse : Ty := (.pair (.int .i64) .bool)
abbrev Header := (List Wide)
abbrev THeader : Ty := (.arr 24 TWide)
abbrev Tern := (Wide × Wide)
abbrev TTern : Ty := (.pair TWide TWide)
abbrev Fault := (Bool × (Int × Int))
abbrev TFault : Ty := (.pair .bool (.pair (.int .i64) (.int .i64)))
abbrev Look := Purse
abbrev TLook : Ty := (.one TPurse)
abbrev Cube := (List Tern)
abbrev TCube : Ty := (.arr 24 TTern)
abbrev Oxm := (Int × (Bool × Tern))
abbrev TOxm : Ty := (.pair (.int .i64) (.pair .bool TTern))
abbrev Atom := (Cube × Fault)
abbrev TAtom : Ty := (.pair TCube TFault)
abbrev Heap := ((List Cube) × Int)
abbrev THeap : Ty := (.pair (.slc TCube) (.int .i64))
abbrev Rule := (Cube × (List Atom))
abbrev TRule : Ty := (.pair TCube (.slc TAtom))
abbrev Action := (Int × (Int × (Int × (Int × (Int × Oxm)))))
abbrev TAction : Ty := (.pair (.int .i64) (.pair (.int .i64) (.pair (.int .i64) (.pair (.int .i64) (.pair (.int .i64) TOxm)))))
abbrev Bucket := (Int × (Int × (Int × (List Action))))
abbrev TBucket : Ty := (.pair (.int .i64) (.pair (.int .i64) (.pair (.int .i64) (.slc TAction))))
abbrev Group := (Int × (Int × (List Bucket)))
abbrev TGroup : Ty := (.pair (.int .i64) (.pair (.int .i64) (.slc TBucket)))
abbrev GroupMod := (Int × Group)
abbrev TGroupMod : Ty := (.pair (.int .i64) TGroup)
abbrev Flat := ((List Rule) × (List Group))
abbrev TFlat : Ty := (.pair (.slc TRule) (.slc TGroup))

def slices_IndexFunc_Bucket.s0 (n : Nat) (k0 : (Int → Option Int)) (s_1 : (List Bucket)) (f_1 : (Bucket → Option Bool)) (v7 : Int) (v8 : Int) : Option Int :=
  bif decide (v8 < v7) then
    bif inRange v8 (List.length s_1) then
    obind (f_1 (List.getD s_1 (Int.toNat v8) (0, 0, 0, ([] : (List Action))))) fun (r1 : Bool) =>
    bif r1 then
      some v8
    else
    k0 (IntKind.wrap .i64 (v8 + 1))
    else none
  else
  some (-1)

def slices_IndexFunc_Bucket.l0 (n : Nat) (s_1 : (List Bucket)) (f_1 : (Bucket → Option Bool)) (v7 : Int) : Nat → Int → Option Int
  | 0, _ => none
  | m + 1, v8 => slices_IndexFunc_Bucket.s0 n (fun v8' => slices_IndexFunc_Bucket.l0 n s_1 f_1 v7 m v8') s_1 f_1 v7 v8

def slices_IndexFunc_Bucket.s (n : Nat) (k0 : ((List Bucket) → (Bucket → Option Bool) → Int → Int → Option Int)) (s : (List Bucket)) (f : (Bucket → Option Bool)) : Option Int :=
  k0 s f ((List.length s : Nat) : Int) 0

def slices_IndexFunc_Bucket (n : Nat) (s : (List Bucket)) (f : (Bucket → Option Bool)) : Option Int := slices_IndexFunc_Bucket.s n (fun s_1 f_1 v7 v8 => slices_IndexFunc_Bucket.l0 n s_1 f_1 v7 n v8) s f

def slices_ContainsFunc_Bucket (n : Nat) (s : (List Bucket)) (f : (Bucket → Option Bool)) : Option Bool :=
  obind (slices_IndexFunc_Bucket n s f) fun (r2 : Int) =>
  some (decide (r2 ≥ 0))

def plain_Acts (l : (List Action)) : Bool :=
  decide (((List.length l : Nat) : Int) ≤ 12)

def plain_Buckets_1_c (x : Bucket) : Bool :=
  let r3 : Bool := plain_Acts x.2.2.2
  !r3

def plain_Buckets (n : Nat) (l : (List Bucket)) (many : Int) : Option Bool :=
  bif ((decide (((List.length l : Nat) : Int) ≤ many)) == true) then
    obind (slices_ContainsFunc_Bucket n l (fun (x4 : Bucket) => some (plain_Buckets_1_c x4))) fun (r5 : Bool) =>
    some (!r5)
  else
  some false

def plain_Groups_1 (n : Nat) (g : Group) (c0 : Int) : Option Bool :=
  obind (plain_Buckets n g.2.2 c0) fun (r6 : Bool) =>
  some (!r6)

def slices_IndexFunc_Group.s0 (n : Nat) (k0 : (Int → Option Int)) (s_1 : (List Group)) (f_1 : (Group → Option Bool)) (v7 : Int) (v8 : Int) : Option Int :=
  bif decide (v8 < v7) then
    bif inRange v8 (List.length s_1) then
    obind (f_1 (List.getD s_1 (Int.toNat v8) (0, 0, ([] : (List Bucket))))) fun (r8 : Bool) =>
    bif r8 then
      some v8
    else
    k0 (IntKind.wrap .i64 (v8 + 1))
    else none
  else
  some (-1)

def slices_IndexFunc_Group.l0 (n : Nat) (s_1 : (List Group)) (f_1 : (Group → Option Bool)) (v7 : Int) : Nat → Int → Option Int
  | 0, _ => none
  | m + 1, v8 => slices_IndexFunc_Group.s0 n (fun v8' => slices_IndexFunc_Group.l0 n s_1 f_1 v7 m v8') s_1 f_1 v7 v8

def slices_IndexFunc_Group.s (n : Nat) (k0 : ((List Group) → (Group → Option Bool) → Int → Int → Option Int)) (s : (List Group)) (f : (Group → Option Bool)) : Option Int :=
  k0 s f ((List.length s : Nat) : Int) 0

def slices_IndexFunc_Group (n : Nat) (s : (List Group)) (f : (Group → Option Bool)) : Option Int := slices_IndexFunc_Group.s n (fun s_1 f_1 v7 v8 => slices_IndexFunc_Group.l0 n s_1 f_1 v7 n v8) s f

def slices_ContainsFunc_Group (n : Nat) (s : (List Group)) (f : (Group → Option Bool)) : Option Bool :=
  obind (slices_IndexFunc_Group n s f) fun (r9 : Int) =>
  some (decide (r9 ≥ 0))

def plain_Groups (n : Nat) (l : (List Group)) (many : Int) (buckets : Int) : Option Bool :=
  bif ((decide (((List.length l : Nat) : Int) ≤ many)) == true) then
    obind (slices_ContainsFunc_Group n l (fun (x7 : Group) => plain_Groups_1 n x7 buckets)) fun (r10 : Bool) =>
    some (!r10)
  else
  some false

def slices_IndexFunc_GroupMod.s0 (n : Nat) (k0 : (Int → Option Int)) (s_1 : (List GroupMod)) (f_1 : (GroupMod → Option Bool)) (v7 : Int) (v8 : Int) : Option Int :=
  bif decide (v8 < v7) then
    bif inRange v8 (List.length s_1) then
    obind (f_1 (List.getD s_1 (Int.toNat v8) (0, 0, 0, ([] : (List Bucket))))) fun (r12 : Bool) =>
    bif r12 then
      some v8
    else
    k0 (IntKind.wrap .i64 (v8 + 1))
    else none
  else
  some (-1)

def slices_IndexFunc_GroupMod.l0 (n : Nat) (s_1 : (List GroupMod)) (f_1 : (GroupMod → Option Bool)) (v7 : Int) : Nat → Int → Option Int
  | 0, _ => none
  | m + 1, v8 => slices_IndexFunc_GroupMod.s0 n (fun v8' => slices_IndexFunc_GroupMod.l0 n s_1 f_1 v7 m v8') s_1 f_1 v7 v8

def slices_IndexFunc_GroupMod.s (n : Nat) (k0 : ((List GroupMod) → (GroupMod → Option Bool) → Int → Int → Option Int)) (s : (List GroupMod)) (f : (GroupMod → Option Bool)) : Option Int :=
  k0 s f ((List.length s : Nat) : Int) 0

def slices_IndexFunc_GroupMod (n : Nat) (s : (List GroupMod)) (f : (GroupMod → Option Bool)) : Option Int := slices_IndexFunc_GroupMod.s n (fun s_1 f_1 v7 v8 => slices_IndexFunc_GroupMod.l0 n s_1 f_1 v7 n v8) s f

def slices_ContainsFunc_GroupMod (n : Nat) (s : (List GroupMod)) (f : (GroupMod → Option Bool)) : Option Bool :=
  obind (slices_IndexFunc_GroupMod n s f) fun (r13 : Int) =>
  some (decide (r13 ≥ 0))

def law24_long_c (n : Nat) (m0 : GroupMod) : Option Bool :=
  obind (plain_Buckets n m0.2.2.2 6) fun (r14 : Bool) =>
  some (!r14)

def group_place_1 (g : Group) (c0 : Int) : Bool :=
  (g.1 == c0)

def group_place (n : Nat) (l : (List Group)) (id1 : Int) : Option Int :=
  obind (slices_IndexFunc_Group n l (fun (x17 : Group) => some (group_place_1 x17 id1))) fun (r18 : Int) =>
  some r18

def group_bad (code : Int) : Fault :=
  (true, 6, code)

def acts_of_int.s0 (n : Nat) (k0 : ((List Int) → Int → Option (List Int))) (kind_1 : Int) (what_1 : (Action → Option Int)) (out : (List Int)) (v10 : (List Action)) (v11 : Int) (v12 : Int) : Option (List Int) :=
  bif decide (v12 < v11) then
    bif inRange v12 (List.length v10) then
    let y0 : Action := List.getD v10 (Int.toNat v12) (0, 0, 0, 0, 0, 0, false, (0, 0), 0, 0)
    bif (y0.1 == kind_1) then
      obind (what_1 y0) fun (r21 : Int) =>
      bif decide ((List.length out + List.length ([r21] : (List Int))) * 8 ≤ 140737488355328) then
      k0 (out ++ ([r21] : (List Int))) (IntKind.wrap .i64 (v12 + 1))
      else none
    else
    k0 out (IntKind.wrap .i64 (v12 + 1))
    else none
  else
  some out

def acts_of_int.l0 (n : Nat) (kind_1 : Int) (what_1 : (Action → Option Int)) (v10 : (List Action)) (v11 : Int) : Nat → (List Int) → Int → Option (List Int)
  | 0, _, _ => none
  | m + 1, out, v12 => acts_of_int.s0 n (fun out' v12' => acts_of_int.l0 n kind_1 what_1 v10 v11 m out' v12') kind_1 what_1 out v10 v11 v12

def acts_of_int.s (n : Nat) (k0 : (Int → (Action → Option Int) → (List Int) → (List Action) → Int → Int → Option (List Int))) (l : (List Action)) (kind : Int) (what : (Action → Option Int)) : Option (List Int) :=
  k0 kind what ([] : (List Int)) l ((List.length l : Nat) : Int) 0

def acts_of_int (n : Nat) (l : (List Action)) (kind : Int) (what : (Action → Option Int)) : Option (List Int) := acts_of_int.s n (fun kind_1 what_1 out v10 v11 v12 => acts_of_int.l0 n kind_1 what_1 v10 v11 n out v12) l kind what

def acts_Groups_1_c (a : Action) : Int :=
  a.2.2.2.1

def acts_Groups (n : Nat) (l : (List Action)) : Option (List Int) :=
  obind (acts_of_int n l 22 (fun (x22 : Action) => some (acts_Groups_1_c x22))) fun (r23 : (List Int)) =>
  some r23

def group_Names.s0 (n : Nat) (k0 : ((List Int) → Int → Option (List Int))) (out : (List Int)) (v6 : (List Bucket)) (v7 : Int) (v8 : Int) : Option (List Int) :=
  bif decide (v8 < v7) then
    bif inRange v8 (List.length v6) then
    obind (acts_Groups n (List.getD v6 (Int.toNat v8) (0, 0, 0, ([] : (List Action)))).2.2.2) fun (r24 : (List Int)) =>
    bif decide ((List.length out + List.length r24) * 8 ≤ 140737488355328) then
    k0 (out ++ r24) (IntKind.wrap .i64 (v8 + 1))
    else none
    else none
  else
  some out

def group_Names.l0 (n : Nat) (v6 : (List Bucket)) (v7 : Int) : Nat → (List Int) → Int → Option (List Int)
  | 0, _, _ => none
  | m + 1, out, v8 => group_Names.s0 n (fun out' v8' => group_Names.l0 n v6 v7 m out' v8') out v6 v7 v8

def group_Names.s (n : Nat) (k0 : ((List Int) → (List Bucket) → Int → Int → Option (List Int))) (l : (List Bucket)) : Option (List Int) :=
  k0 ([] : (List Int)) l ((List.length l : Nat) : Int) 0

def group_Names (n : Nat) (l : (List Bucket)) : Option (List Int) := group_Names.s n (fun out v6 v7 v8 => group_Names.l0 n v6 v7 n out v8) l

def slices_Index_int.s0 (n : Nat) (k0 : (Int → Option Int)) (s_1 : (List Int)) (v_1 : Int) (v7 : Int) (v8 : Int) : Option Int :=
  bif decide (v8 < v7) then
    bif inRange v8 (List.length s_1) then
    bif (v_1 == (List.getD s_1 (Int.toNat v8) 0)) then
      some v8
    else
    k0 (IntKind.wrap .i64 (v8 + 1))
    else none
  else
  some (-1)

def slices_Index_int.l0 (n : Nat) (s_1 : (List Int)) (v_1 : Int) (v7 : Int) : Nat → Int → Option Int
  | 0, _ => none
  | m + 1, v8 => slices_Index_int.s0 n (fun v8' => slices_Index_int.l0 n s_1 v_1 v7 m v8') s_1 v_1 v7 v8

def slices_Index_int.s (n : Nat) (k0 : ((List Int) → Int → Int → Int → Option Int)) (s : (List Int)) (v : Int) : Option Int :=
  k0 s v ((List.length s : Nat) : Int) 0

def slices_Index_int (n : Nat) (s : (List Int)) (v : Int) : Option Int := slices_Index_int.s n (fun s_1 v_1 v7 v8 => slices_Index_int.l0 n s_1 v_1 v7 n v8) s v

def slices_Contains_int (n : Nat) (s : (List Int)) (v : Int) : Option Bool :=
  obind (slices_Index_int n s v) fun (r26 : Int) =>
  some (decide (r26 ≥ 0))

def group_drop_1 (n : Nat) (g : Group) (c0 : Int) : Option Bool :=
  bif ((g.1 != c0) == true) then
    obind (group_Names n g.2.2) fun (r25 : (List Int)) =>
    obind (slices_Contains_int n r25 c0) fun (r27 : Bool) =>
    some r27
  else
  some false

def group_numbered (id0 : Int) : Bool :=
  bif ((decide (id0 ≥ 0)) == true) then
    decide (id0 ≤ 4294967040)
  else
  false
def group_numbered.o (id0 : Int) : Option Bool :=
  bif ((decide (id0 ≥ 0)) == true) then
    some (decide (id0 ≤ 4294967040))
  else
  some false
theorem group_numbered.o_eq (id0 : Int) : group_numbered.o id0 = some (group_numbered id0) := by simp only [group_numbered.o, group_numbered, cond_some, obind_some]

def slices_Clone_Group (s : (List Group)) : Option (List Group) := bif decide ((List.length ([] : (List Group)) + List.length s) * 40 ≤ 140737488355328) then some s else none

def slices_Clone_Bucket (s : (List Bucket)) : Option (List Bucket) := bif decide ((List.length ([] : (List Bucket)) + List.length s) * 48 ≤ 140737488355328) then some s else none

def slices_Clone_Action (s : (List Action)) : Option (List Action) := bif decide ((List.length ([] : (List Action)) + List.length s) * 88 ≤ 140737488355328) then some s else none

def group_copies.s0 (n : Nat) (k0 : (Int → (List Bucket) → Option (List Bucket))) (v8 : Int) (v9 : Int) (v6 : (List Bucket)) : Option (List Bucket) :=
  bif decide (v9 < v8) then
    bif inRange v9 (List.length v6) then
    obind (slices_Clone_Action (List.getD v6 (Int.toNat v9) (0, 0, 0, ([] : (List Action)))).2.2.2) fun (r36 : (List Action)) =>
    bif inRange v9 (List.length v6) then
    let y0 : Bucket := List.getD v6 (Int.toNat v9) (0, 0, 0, ([] : (List Action)))
    let y1 : (Int × (Int × (List Action))) := y0.2
    k0 (IntKind.wrap .i64 (v9 + 1)) (List.set v6 (Int.toNat v9) (y0.1, y1.1, y1.2.1, r36))
    else none
    else none
  else
  some v6

def group_copies.l0 (n : Nat) (v8 : Int) : Nat → Int → (List Bucket) → Option (List Bucket)
  | 0, _, _ => none
  | m + 1, v9, v6 => group_copies.s0 n (fun v9' v6' => group_copies.l0 n v8 m v9' v6') v8 v9 v6

def group_copies.s (n : Nat) (k0 : (Int → Int → (List Bucket) → Option (List Bucket))) (l : (List Bucket)) : Option (List Bucket) :=
  obind (slices_Clone_Bucket l) fun (r35 : (List Bucket)) =>
  k0 ((List.length r35 : Nat) : Int) 0 r35

def group_copies (n : Nat) (l : (List Bucket)) : Option (List Bucket) := group_copies.s n (fun v8 v9 v6 => group_copies.l0 n v8 n v9 v6) l

def group_fresh.s0 (n : Nat) (k0 : (Int → (List Group) → Option (List Group))) (v8 : Int) (v9 : Int) (v6 : (List Group)) : Option (List Group) :=
  bif decide (v9 < v8) then
    bif inRange v9 (List.length v6) then
    obind (group_copies n (List.getD v6 (Int.toNat v9) (0, 0, ([] : (List Bucket)))).2.2) fun (r37 : (List Bucket)) =>
    bif inRange v9 (List.length v6) then
    let y0 : Group := List.getD v6 (Int.toNat v9) (0, 0, ([] : (List Bucket)))
    k0 (IntKind.wrap .i64 (v9 + 1)) (List.set v6 (Int.toNat v9) (y0.1, y0.2.1, r37))
    else none
    else none
  else
  some v6

def group_fresh.l0 (n : Nat) (v8 : Int) : Nat → Int → (List Group) → Option (List Group)
  | 0, _, _ => none
  | m + 1, v9, v6 => group_fresh.s0 n (fun v9' v6' => group_fresh.l0 n v8 m v9' v6') v8 v9 v6

def group_fresh.s (n : Nat) (k0 : (Int → Int → (List Group) → Option (List Group))) (l : (List Group)) : Option (List Group) :=
  obind (slices_Clone_Group l) fun (r34 : (List Group)) =>
  k0 ((List.length r34 : Nat) : Int) 0 r34

def group_fresh (n : Nat) (l : (List Group)) : Option (List Group) := group_fresh.s n (fun v8 v9 v6 => group_fresh.l0 n v8 n v9 v6) l

def group_drop_2 (g : Group) (c0 : Int) : Bool :=
  (g.1 == c0)

def slices_DeleteFunc_Group.s0 (n : Nat) (k0 : (Int → Int → (List Group) → Option (List Group))) (del_1 : (Group → Option Bool)) (i : Int) (j : Int) (s_1 : (List Group)) : Option (List Group) :=
  bif decide (j < ((List.length s_1 : Nat) : Int)) then
    bif inRange j (List.length s_1) then
    let y0 : Group := List.getD s_1 (Int.toNat j) (0, 0, ([] : (List Bucket)))
    obind (del_1 y0) fun (r41 : Bool) =>
    bif !r41 then
      bif inRange i (List.length s_1) then
      k0 (IntKind.wrap .i64 (i + 1)) (IntKind.wrap .i64 (j + 1)) (List.set s_1 (Int.toNat i) y0)
      else none
    else
    k0 i (IntKind.wrap .i64 (j + 1)) s_1
    else none
  else
  bif ((decide (0 ≤ i)) && (decide (i ≤ ((List.length s_1 : Nat) : Int)))) then
  let y1 : (List Group) := List.take (Int.toNat i) s_1
  let y2 : Nat := (List.length s_1 - (Int.toNat i))
  let y3 : (List Group) := List.replicate y2 (0, 0, ([] : (List Bucket)))
  let y4 : (List Group) := (y1 ++ y3)
  bif ((decide (0 ≤ i)) && (decide (i ≤ ((List.length y4 : Nat) : Int)))) then
  some (sub y4 0 (Int.toNat i))
  else none
  else none

def slices_DeleteFunc_Group.l0 (n : Nat) (del_1 : (Group → Option Bool)) : Nat → Int → Int → (List Group) → Option (List Group)
  | 0, _, _, _ => none
  | m + 1, i, j, s_1 => slices_DeleteFunc_Group.s0 n (fun i' j' s_1' => slices_DeleteFunc_Group.l0 n del_1 m i' j' s_1') del_1 i j s_1

def slices_DeleteFunc_Group.s (n : Nat) (k0 : ((Group → Option Bool) → Int → Int → (List Group) → Option (List Group))) (s : (List Group)) (del : (Group → Option Bool)) : Option (List Group) :=
  obind (slices_IndexFunc_Group n s del) fun (r40 : Int) =>
  bif (r40 == (-1)) then
    some s
  else
  k0 del r40 (IntKind.wrap .i64 (r40 + 1)) s

def slices_DeleteFunc_Group (n : Nat) (s : (List Group)) (del : (Group → Option Bool)) : Option (List Group) := slices_DeleteFunc_Group.s n (fun del_1 i j s_1 => slices_DeleteFunc_Group.l0 n del_1 n i j s_1) s del

def group_drop (n : Nat) (l : (List Group)) (id1 : Int) : Option ((List Group) × Fault) :=
  bif (id1 == 4294967292) then
    some (([] : (List Group)), (false, 0, 0))
  else
  obind (some (group_numbered id1)) fun (r29 : Bool) =>
  bif !r29 then
    obind (some (group_bad 1)) fun (r30 : Fault) =>
    some (([] : (List Group)), r30)
  else
  obind (group_place n l id1) fun (r31 : Int) =>
  bif ((decide (r31 ≥ 0)) == true) then
    obind (slices_ContainsFunc_Group n l (fun (x28 : Group) => group_drop_1 n x28 id1)) fun (r32 : Bool) =>
    bif r32 then
      obind (some (group_bad 9)) fun (r33 : Fault) =>
      some (([] : (List Group)), r33)
    else
    obind (group_fresh n l) fun (r38 : (List Group)) =>
    obind (slices_DeleteFunc_Group n r38 (fun (x39 : Group) => some (group_drop_2 x39 id1))) fun (r42 : (List Group)) =>
    some (r42, (false, 0, 0))
  else
  obind (group_fresh n l) fun (r43 : (List Group)) =>
  obind (slices_DeleteFunc_Group n r43 (fun (x44 : Group) => some (group_drop_2 x44 id1))) fun (r45 : (List Group)) =>
  some (r45, (false, 0, 0))

def group_weighs (kind : Int) : (Int × Fault) :=
  bif (kind == 1) then
    let r55 : Fault := group_bad 2
    (1, r55)
  else
  let r56 : Fault := group_bad 1
  (0, r56)
def group_weighs.o (kind : Int) : Option (Int × Fault) :=
  bif (kind == 1) then
    obind (some (group_bad 2)) fun (r55 : Fault) =>
    some (1, r55)
  else
  obind (some (group_bad 1)) fun (r56 : Fault) =>
  some (0, r56)
theorem group_weighs.o_eq (kind : Int) : group_weighs.o kind = some (group_weighs kind) := by simp only [group_weighs.o, group_weighs, cond_some, obind_some]

def group_watches (kind : Int) (port : Int) : Bool :=
  bif (kind == 3) then
    bif ((decide (port ≥ 1)) == true) then
      decide (port ≤ 6)
    else
    false
  else
  (port == 4294967295)
def group_watches.o (kind : Int) (port : Int) : Option Bool :=
  bif (kind == 3) then
    bif ((decide (port ≥ 1)) == true) then
      some (decide (port ≤ 6))
    else
    some false
  else
  some (port == 4294967295)
theorem group_watches.o_eq (kind : Int) (port : Int) : group_watches.o kind port = some (group_watches kind port) := by simp only [group_watches.o, group_watches, cond_some, obind_some]

def group_Check.s0 (n : Nat) (k0 : (Int → Option Fault)) (kind_1 : Int) (weight : Int) (v36 : (List Bucket)) (v37 : Int) (v38 : Int) (v4 : Fault) (f : Fault) : Option Fault :=
  bif decide (v38 < v37) then
    bif inRange v38 (List.length v36) then
    let y0 : Bucket := List.getD v36 (Int.toNat v38) (0, 0, 0, ([] : (List Action)))
    bif (y0.2.2.1 != 4294967295) then
      obind (some (group_bad 6)) fun (r58 : Fault) =>
      some r58
    else
    bif (y0.1 != weight) then
      some f
    else
    obind (some (group_watches kind_1 y0.2.1)) fun (r59 : Bool) =>
    bif !r59 then
      obind (some (group_bad 13)) fun (r60 : Fault) =>
      some r60
    else
    k0 (IntKind.wrap .i64 (v38 + 1))
    else none
  else
  some (false, 0, 0)

def group_Check.l0 (n : Nat) (kind_1 : Int) (weight : Int) (v36 : (List Bucket)) (v37 : Int) (v4 : Fault) (f : Fault) : Nat → Int → Option Fault
  | 0, _ => none
  | m + 1, v38 => group_Check.s0 n (fun v38' => group_Check.l0 n kind_1 weight v36 v37 v4 f m v38') kind_1 weight v36 v37 v38 v4 f

def group_Check.s (n : Nat) (k0 : (Int → Int → (List Bucket) → Int → Int → Fault → Fault → Option Fault)) (kind : Int) (l : (List Bucket)) : Option Fault :=
  bif ((decide (kind < 0)) == false) then
    bif decide (kind > 3) then
      obind (some (group_bad 10)) fun (r52 : Fault) =>
      some r52
    else
    bif decide (((List.length l : Nat) : Int) > 4) then
      obind (some (group_bad 4)) fun (r53 : Fault) =>
      some r53
    else
    bif ((kind == 2) == true) then
      bif (((List.length l : Nat) : Int) != 1) then
        obind (some (group_bad 1)) fun (r54 : Fault) =>
        some r54
      else
      obind (some (group_weighs kind)) fun (r57 : (Int × Fault)) =>
      k0 kind r57.1 l ((List.length l : Nat) : Int) 0 (false, 0, 0) r57.2
    else
    obind (some (group_weighs kind)) fun (r61 : (Int × Fault)) =>
    k0 kind r61.1 l ((List.length l : Nat) : Int) 0 (false, 0, 0) r61.2
  else
  obind (some (group_bad 10)) fun (r62 : Fault) =>
  some r62

def group_Check (n : Nat) (kind : Int) (l : (List Bucket)) : Option Fault := group_Check.s n (fun kind_1 weight v36 v37 v38 v4 f => group_Check.l0 n kind_1 weight v36 v37 v4 f n v38) kind l

def group_there_1 (n : Nat) (id0 : Int) (c0 : (List Group)) : Option Bool :=
  obind (group_place n c0 id0) fun (r67 : Int) =>
  some (decide (r67 < 0))

def slices_IndexFunc_int.s0 (n : Nat) (k0 : (Int → Option Int)) (s_1 : (List Int)) (f_1 : (Int → Option Bool)) (v7 : Int) (v8 : Int) : Option Int :=
  bif decide (v8 < v7) then
    bif inRange v8 (List.length s_1) then
    obind (f_1 (List.getD s_1 (Int.toNat v8) 0)) fun (r69 : Bool) =>
    bif r69 then
      some v8
    else
    k0 (IntKind.wrap .i64 (v8 + 1))
    else none
  else
  some (-1)

def slices_IndexFunc_int.l0 (n : Nat) (s_1 : (List Int)) (f_1 : (Int → Option Bool)) (v7 : Int) : Nat → Int → Option Int
  | 0, _ => none
  | m + 1, v8 => slices_IndexFunc_int.s0 n (fun v8' => slices_IndexFunc_int.l0 n s_1 f_1 v7 m v8') s_1 f_1 v7 v8

def slices_IndexFunc_int.s (n : Nat) (k0 : ((List Int) → (Int → Option Bool) → Int → Int → Option Int)) (s : (List Int)) (f : (Int → Option Bool)) : Option Int :=
  k0 s f ((List.length s : Nat) : Int) 0

def slices_IndexFunc_int (n : Nat) (s : (List Int)) (f : (Int → Option Bool)) : Option Int := slices_IndexFunc_int.s n (fun s_1 f_1 v7 v8 => slices_IndexFunc_int.l0 n s_1 f_1 v7 n v8) s f

def slices_ContainsFunc_int (n : Nat) (s : (List Int)) (f : (Int → Option Bool)) : Option Bool :=
  obind (slices_IndexFunc_int n s f) fun (r70 : Int) =>
  some (decide (r70 ≥ 0))

def group_there (n : Nat) (l : (List Group)) (b : (List Bucket)) : Option Bool :=
  obind (group_Names n b) fun (r66 : (List Int)) =>
  obind (slices_ContainsFunc_int n r66 (fun (x68 : Int) => group_there_1 n x68 l)) fun (r71 : Bool) =>
  some (!r71)


def zG : Group := (0, 0, [])
def group_walkN (rec : Int → List Int → Option (List Int)) (n : Nat) (l : List Group) : List Int → List Int → Option (List Int)
  | [], seen => some seen
  | id1 :: ids, seen => obind (group_place n l id1) fun i => bif decide (i < 0) then group_walkN rec n l ids seen else bif seen.contains i then group_walkN rec n l ids seen else obind (rec i (seen ++ [i])) fun seen' => group_walkN rec n l ids seen'
def group_walk (n : Nat) (l : List Group) : Nat → Int → List Int → Option (List Int)
  | 0, _, _ => none
  | k + 1, at_, seen => bif inRange at_ l.length then obind (group_Names n (List.getD l at_.toNat zG).2.2) fun names => (bif decide (names.length ≤ 140737488355328) then group_walkN (group_walk n l k) n l names seen else none) else none

def group_LoopR (n : Nat) (l : List Group) : Nat → Nat → Option Bool
  | 0, _ => some false
  | r + 1, i => obind (group_walk n l n i []) fun seen => bif seen.all (fun a => inRange a l.length) then (bif seen.any (fun a => decide ((List.getD l a.toNat zG).1 = (List.getD l i zG).1)) then some true else group_LoopR n l r (i + 1)) else none
def group_Loop (n : Nat) (l : List Group) : Option Bool := bif decide (l.length ≤ 140737488355328) then group_LoopR n l l.length 0 else none


def group_put (n : Nat) (l : (List Group)) (at1 : Int) (m2 : GroupMod) : Option ((List Group) × Fault) :=
  obind (group_Check n m2.2.1 m2.2.2.2) fun (r63 : Fault) =>
  bif r63.1 then
    some (([] : (List Group)), r63)
  else
  obind (group_fresh n l) fun (r64 : (List Group)) =>
  obind (group_copies n m2.2.2.2) fun (r65 : (List Bucket)) =>
  bif decide (at1 < 0) then
    bif decide ((List.length r64 + List.length ([(m2.2.2.1, m2.2.1, r65)] : (List Group))) * 40 ≤ 140737488355328) then
    let y0 : (List Group) := (r64 ++ ([(m2.2.2.1, m2.2.1, r65)] : (List Group)))
    obind (group_there n y0 r65) fun (r72 : Bool) =>
    bif !r72 then
      some (([] : (List Group)), (true, 2, 9))
    else
    obind (group_Loop n y0) fun (r73 : Bool) =>
    bif r73 then
      obind (some (group_bad 7)) fun (r74 : Fault) =>
      some (([] : (List Group)), r74)
    else
    some (y0, (false, 0, 0))
    else none
  else
  bif inRange at1 (List.length r64) then
  let y1 : (List Group) := List.set r64 (Int.toNat at1) (m2.2.2.1, m2.2.1, r65)
  obind (group_there n y1 r65) fun (r75 : Bool) =>
  bif !r75 then
    some (([] : (List Group)), (true, 2, 9))
  else
  obind (group_Loop n y1) fun (r76 : Bool) =>
  bif r76 then
    obind (some (group_bad 7)) fun (r77 : Fault) =>
    some (([] : (List Group)), r77)
  else
  some (y1, (false, 0, 0))
  else none

def group_Do (n : Nat) (l : (List Group)) (m1 : GroupMod) : Option ((List Group) × Fault) :=
  obind (group_place n l m1.2.2.1) fun (r19 : Int) =>
  bif ((decide (m1.1 < 0)) == false) then
    bif decide (m1.1 > 2) then
      obind (some (group_bad 11)) fun (r20 : Fault) =>
      some (([] : (List Group)), r20)
    else
    bif (m1.1 == 2) then
      obind (group_drop n l m1.2.2.1) fun (r46 : ((List Group) × Fault)) =>
      some (r46.1, r46.2)
    else
    obind (some (group_numbered m1.2.2.1)) fun (r47 : Bool) =>
    bif !r47 then
      obind (some (group_bad 1)) fun (r48 : Fault) =>
      some (([] : (List Group)), r48)
    else
    bif ((m1.1 == 1) == true) then
      bif decide (r19 < 0) then
        obind (some (group_bad 8)) fun (r49 : Fault) =>
        some (([] : (List Group)), r49)
      else
      bif ((m1.1 == 0) == true) then
        bif decide (r19 ≥ 0) then
          obind (some (group_bad 0)) fun (r50 : Fault) =>
          some (([] : (List Group)), r50)
        else
        bif ((m1.1 == 0) == true) then
          bif decide (((List.length l : Nat) : Int) ≥ 8) then
            obind (some (group_bad 3)) fun (r51 : Fault) =>
            some (([] : (List Group)), r51)
          else
          obind (group_put n l r19 m1) fun (r78 : ((List Group) × Fault)) =>
          some (r78.1, r78.2)
        else
        obind (group_put n l r19 m1) fun (r79 : ((List Group) × Fault)) =>
        some (r79.1, r79.2)
      else
      bif ((m1.1 == 0) == true) then
        bif decide (((List.length l : Nat) : Int) ≥ 8) then
          obind (some (group_bad 3)) fun (r80 : Fault) =>
          some (([] : (List Group)), r80)
        else
        obind (group_put n l r19 m1) fun (r81 : ((List Group) × Fault)) =>
        some (r81.1, r81.2)
      else
      obind (group_put n l r19 m1) fun (r82 : ((List Group) × Fault)) =>
      some (r82.1, r82.2)
    else
    bif ((m1.1 == 0) == true) then
      bif decide (r19 ≥ 0) then
        obind (some (group_bad 0)) fun (r83 : Fault) =>
        some (([] : (List Group)), r83)
      else
      bif ((m1.1 == 0) == true) then
        bif decide (((List.length l : Nat) : Int) ≥ 8) then
          obind (some (group_bad 3)) fun (r84 : Fault) =>
          some (([] : (List Group)), r84)
        else
        obind (group_put n l r19 m1) fun (r85 : ((List Group) × Fault)) =>
        some (r85.1, r85.2)
      else
      obind (group_put n l r19 m1) fun (r86 : ((List Group) × Fault)) =>
      some (r86.1, r86.2)
    else
    bif ((m1.1 == 0) == true) then
      bif decide (((List.length l : Nat) : Int) ≥ 8) then
        obind (some (group_bad 3)) fun (r87 : Fault) =>
        some (([] : (List Group)), r87)
      else
      obind (group_put n l r19 m1) fun (r88 : ((List Group) × Fault)) =>
      some (r88.1, r88.2)
    else
    obind (group_put n l r19 m1) fun (r89 : ((List Group) × Fault)) =>
    some (r89.1, r89.2)
  else
  obind (some (group_bad 11)) fun (r90 : Fault) =>
  some (([] : (List Group)), r90)

def group_Find (n : Nat) (l : (List Group)) (id1 : Int) : Option (Group × Bool) :=
  obind (group_place n l id1) fun (r93 : Int) =>
  bif decide (r93 < 0) then
    some ((0, 0, ([] : (List Bucket))), false)
  else
  bif ((decide (0 ≤ r93)) && ((decide (r93 ≤ (IntKind.wrap .i64 (r93 + 1)))) && (decide ((IntKind.wrap .i64 (r93 + 1)) ≤ ((List.length l : Nat) : Int))))) then
  obind (group_fresh n (sub l (Int.toNat r93) (Int.toNat (IntKind.wrap .i64 (r93 + 1))))) fun (r94 : (List Group)) =>
  bif inRange 0 (List.length r94) then
  some (List.getD r94 0 (0, 0, ([] : (List Bucket))), true)
  else none
  else none

def group_Right.s0 (n : Nat) (k0 : (Int → Option Bool)) (l_1 : (List Group)) (v12 : (List Group)) (v13 : Int) (v14 : Int) : Option Bool :=
  bif decide (v14 < v13) then
    bif inRange v14 (List.length v12) then
    let y0 : Group := List.getD v12 (Int.toNat v14) (0, 0, ([] : (List Bucket)))
    obind (some (group_numbered y0.1)) fun (r97 : Bool) =>
    bif ((!r97) == false) then
      obind (group_place n l_1 y0.1) fun (r98 : Int) =>
      bif ((r98 != v14) == false) then
        obind (group_Check n y0.2.1 y0.2.2) fun (r99 : Fault) =>
        bif (r99.1 == false) then
          obind (group_there n l_1 y0.2.2) fun (r100 : Bool) =>
          bif !r100 then
            some false
          else
          k0 (IntKind.wrap .i64 (v14 + 1))
        else
        some false
      else
      some false
    else
    some false
    else none
  else
  some true

def group_Right.l0 (n : Nat) (l_1 : (List Group)) (v12 : (List Group)) (v13 : Int) : Nat → Int → Option Bool
  | 0, _ => none
  | m + 1, v14 => group_Right.s0 n (fun v14' => group_Right.l0 n l_1 v12 v13 m v14') l_1 v12 v13 v14

def group_Right.s (n : Nat) (k0 : ((List Group) → (List Group) → Int → Int → Option Bool)) (l : (List Group)) : Option Bool :=
  bif ((decide (((List.length l : Nat) : Int) > 8)) == false) then
    obind (group_Loop n l) fun (r96 : Bool) =>
    bif r96 then
      some false
    else
    k0 l l ((List.length l : Nat) : Int) 0
  else
  some false

def group_Right (n : Nat) (l : (List Group)) : Option Bool := group_Right.s n (fun l_1 v12 v13 v14 => group_Right.l0 n l_1 v12 v13 n v14) l

def slices_EqualFunc_Group.s0 (n : Nat) (k0 : (Int → Option Bool)) (s2_1 : (List Group)) (eq_1 : ((Group × Group) → Option Bool)) (v15 : (List Group)) (v16 : Int) (v17 : Int) : Option Bool :=
  bif decide (v17 < v16) then
    bif inRange v17 (List.length v15) then
    bif inRange v17 (List.length s2_1) then
    obind (eq_1 ((List.getD v15 (Int.toNat v17) (0, 0, ([] : (List Bucket)))), (List.getD s2_1 (Int.toNat v17) (0, 0, ([] : (List Bucket)))))) fun (r103 : Bool) =>
    bif !r103 then
      some false
    else
    k0 (IntKind.wrap .i64 (v17 + 1))
    else none
    else none
  else
  some true

def slices_EqualFunc_Group.l0 (n : Nat) (s2_1 : (List Group)) (eq_1 : ((Group × Group) → Option Bool)) (v15 : (List Group)) (v16 : Int) : Nat → Int → Option Bool
  | 0, _ => none
  | m + 1, v17 => slices_EqualFunc_Group.s0 n (fun v17' => slices_EqualFunc_Group.l0 n s2_1 eq_1 v15 v16 m v17') s2_1 eq_1 v15 v16 v17

def slices_EqualFunc_Group.s (n : Nat) (k0 : ((List Group) → ((Group × Group) → Option Bool) → (List Group) → Int → Int → Option Bool)) (s1 : (List Group)) (s2 : (List Group)) (eq : ((Group × Group) → Option Bool)) : Option Bool :=
  bif (((List.length s1 : Nat) : Int) != ((List.length s2 : Nat) : Int)) then
    some false
  else
  k0 s2 eq s1 ((List.length s1 : Nat) : Int) 0

def slices_EqualFunc_Group (n : Nat) (s1 : (List Group)) (s2 : (List Group)) (eq : ((Group × Group) → Option Bool)) : Option Bool := slices_EqualFunc_Group.s n (fun s2_1 eq_1 v15 v16 v17 => slices_EqualFunc_Group.l0 n s2_1 eq_1 v15 v16 n v17) s1 s2 eq

def slices_EqualFunc_Bucket.s0 (n : Nat) (k0 : (Int → Option Bool)) (s2_1 : (List Bucket)) (eq_1 : ((Bucket × Bucket) → Option Bool)) (v15 : (List Bucket)) (v16 : Int) (v17 : Int) : Option Bool :=
  bif decide (v17 < v16) then
    bif inRange v17 (List.length v15) then
    bif inRange v17 (List.length s2_1) then
    obind (eq_1 ((List.getD v15 (Int.toNat v17) (0, 0, 0, ([] : (List Action)))), (List.getD s2_1 (Int.toNat v17) (0, 0, 0, ([] : (List Action)))))) fun (r104 : Bool) =>
    bif !r104 then
      some false
    else
    k0 (IntKind.wrap .i64 (v17 + 1))
    else none
    else none
  else
  some true

def slices_EqualFunc_Bucket.l0 (n : Nat) (s2_1 : (List Bucket)) (eq_1 : ((Bucket × Bucket) → Option Bool)) (v15 : (List Bucket)) (v16 : Int) : Nat → Int → Option Bool
  | 0, _ => none
  | m + 1, v17 => slices_EqualFunc_Bucket.s0 n (fun v17' => slices_EqualFunc_Bucket.l0 n s2_1 eq_1 v15 v16 m v17') s2_1 eq_1 v15 v16 v17

def slices_EqualFunc_Bucket.s (n : Nat) (k0 : ((List Bucket) → ((Bucket × Bucket) → Option Bool) → (List Bucket) → Int → Int → Option Bool)) (s1 : (List Bucket)) (s2 : (List Bucket)) (eq : ((Bucket × Bucket) → Option Bool)) : Option Bool :=
  bif (((List.length s1 : Nat) : Int) != ((List.length s2 : Nat) : Int)) then
    some false
  else
  k0 s2 eq s1 ((List.length s1 : Nat) : Int) 0

def slices_EqualFunc_Bucket (n : Nat) (s1 : (List Bucket)) (s2 : (List Bucket)) (eq : ((Bucket × Bucket) → Option Bool)) : Option Bool := slices_EqualFunc_Bucket.s n (fun s2_1 eq_1 v15 v16 v17 => slices_EqualFunc_Bucket.l0 n s2_1 eq_1 v15 v16 n v17) s1 s2 eq

def slices_EqualFunc_Action.s0 (n : Nat) (k0 : (Int → Option Bool)) (s2_1 : (List Action)) (eq_1 : ((Action × Action) → Option Bool)) (v15 : (List Action)) (v16 : Int) (v17 : Int) : Option Bool :=
  bif decide (v17 < v16) then
    bif inRange v17 (List.length v15) then
    bif inRange v17 (List.length s2_1) then
    obind (eq_1 ((List.getD v15 (Int.toNat v17) (0, 0, 0, 0, 0, 0, false, (0, 0), 0, 0)), (List.getD s2_1 (Int.toNat v17) (0, 0, 0, 0, 0, 0, false, (0, 0), 0, 0)))) fun (r105 : Bool) =>
    bif !r105 then
      some false
    else
    k0 (IntKind.wrap .i64 (v17 + 1))
    else none
    else none
  else
  some true

def slices_EqualFunc_Action.l0 (n : Nat) (s2_1 : (List Action)) (eq_1 : ((Action × Action) → Option Bool)) (v15 : (List Action)) (v16 : Int) : Nat → Int → Option Bool
  | 0, _ => none
  | m + 1, v17 => slices_EqualFunc_Action.s0 n (fun v17' => slices_EqualFunc_Action.l0 n s2_1 eq_1 v15 v16 m v17') s2_1 eq_1 v15 v16 v17

def slices_EqualFunc_Action.s (n : Nat) (k0 : ((List Action) → ((Action × Action) → Option Bool) → (List Action) → Int → Int → Option Bool)) (s1 : (List Action)) (s2 : (List Action)) (eq : ((Action × Action) → Option Bool)) : Option Bool :=
  bif (((List.length s1 : Nat) : Int) != ((List.length s2 : Nat) : Int)) then
    some false
  else
  k0 s2 eq s1 ((List.length s1 : Nat) : Int) 0

def slices_EqualFunc_Action (n : Nat) (s1 : (List Action)) (s2 : (List Action)) (eq : ((Action × Action) → Option Bool)) : Option Bool := slices_EqualFunc_Action.s n (fun s2_1 eq_1 v15 v16 v17 => slices_EqualFunc_Action.l0 n s2_1 eq_1 v15 v16 n v17) s1 s2 eq

def action_Same_c (a : Action) (b : Action) : Bool :=
  beqT TAction a b

def acts_Same (n : Nat) (a : (List Action)) (b : (List Action)) : Option Bool :=
  obind (slices_EqualFunc_Action n a b (fun (x106 : (Action × Action)) => some (action_Same_c x106.1 x106.2))) fun (r107 : Bool) =>
  some r107

def bucket_same_c (n : Nat) (a : Bucket) (b : Bucket) : Option Bool :=
  bif ((a.1 == b.1) == true) then
    bif ((a.2.1 == b.2.1) == true) then
      bif ((a.2.2.1 == b.2.2.1) == true) then
        obind (acts_Same n a.2.2.2 b.2.2.2) fun (r108 : Bool) =>
        some r108
      else
      some false
    else
    some false
  else
  some false

def bucket_Same (n : Nat) (a : (List Bucket)) (b : (List Bucket)) : Option Bool :=
  obind (slices_EqualFunc_Bucket n a b (fun (x109 : (Bucket × Bucket)) => bucket_same_c n x109.1 x109.2)) fun (r110 : Bool) =>
  some r110

def group_same_c (n : Nat) (a : Group) (b : Group) : Option Bool :=
  bif ((a.1 == b.1) == true) then
    bif ((a.2.1 == b.2.1) == true) then
      obind (bucket_Same n a.2.2 b.2.2) fun (r111 : Bool) =>
      some r111
    else
    some false
  else
  some false

def group_Same (n : Nat) (a : (List Group)) (b : (List Group)) : Option Bool :=
  obind (slices_EqualFunc_Group n a b (fun (x112 : (Group × Group)) => group_same_c n x112.1 x112.2)) fun (r113 : Bool) =>
  some r113

def law24_awake (n : Nat) : Option Bool :=
  obind (group_Do n ([] : (List Group)) (0, 0, 1, ([] : (List Bucket)))) fun (r91 : ((List Group) × Fault)) =>
  obind (group_Do n r91.1 (0, 0, 2, ([(0, 4294967295, 4294967295, ([(22, 0, 0, 2, 0, 0, false, (0, 0), 0, 0)] : (List Action)))] : (List Bucket)))) fun (r92 : ((List Group) × Fault)) =>
  obind (group_Find n r91.1 1) fun (r95 : (Group × Bool)) =>
  bif ((!r91.2.1) == true) then
    bif ((((List.length r91.1 : Nat) : Int) == 1) == true) then
      bif ((beqT TFault r92.2 (true, 6, 7)) == true) then
        bif (r95.2 == true) then
          bif ((r95.1.1 == 1) == true) then
            obind (group_Right n r91.1) fun (r101 : Bool) =>
            bif (r101 == true) then
              obind (group_Loop n r91.1) fun (r102 : Bool) =>
              bif ((!r102) == true) then
                obind (group_Same n r91.1 r91.1) fun (r114 : Bool) =>
                bif (r114 == true) then
                  obind (group_Check n 9 ([] : (List Bucket))) fun (r115 : Fault) =>
                  bif ((r115.2.2 == 10) == true) then
                    obind (group_Names n ([] : (List Bucket))) fun (r116 : (List Int)) =>
                    some (((List.length r116 : Nat) : Int) == 0)
                  else
                  some false
                else
                some false
              else
              some false
            else
            some false
          else
          some false
        else
        some false
      else
      some false
    else
    some false
  else
  some false

def law24_awake.τs : List Ty := []

def ref24_bad (code : Int) : Fault :=
  (true, 6, code)

def ref24_place.s0 (n : Nat) (k0 : (Int → Option Int)) (l_1 : (List Group)) (id1_1 : Int) (i : Int) : Option Int :=
  bif decide (i < ((List.length l_1 : Nat) : Int)) then
    bif inRange i (List.length l_1) then
    bif ((List.getD l_1 (Int.toNat i) (0, 0, ([] : (List Bucket)))).1 == id1_1) then
      some i
    else
    k0 (IntKind.wrap .i64 (i + 1))
    else none
  else
  some (-1)

def ref24_place.l0 (n : Nat) (l_1 : (List Group)) (id1_1 : Int) : Nat → Int → Option Int
  | 0, _ => none
  | m + 1, i => ref24_place.s0 n (fun i' => ref24_place.l0 n l_1 id1_1 m i') l_1 id1_1 i

def ref24_place.s (n : Nat) (k0 : ((List Group) → Int → Int → Option Int)) (l : (List Group)) (id1 : Int) : Option Int :=
  k0 l id1 0

def ref24_place (n : Nat) (l : (List Group)) (id1 : Int) : Option Int := ref24_place.s n (fun l_1 id1_1 i => ref24_place.l0 n l_1 id1_1 n i) l id1

def ref13_Groups.s0 (n : Nat) (k0 : ((List Int) → Int → Option (List Int))) (l_1 : (List Action)) (out : (List Int)) (i : Int) : Option (List Int) :=
  bif decide (i < ((List.length l_1 : Nat) : Int)) then
    bif inRange i (List.length l_1) then
    bif ((List.getD l_1 (Int.toNat i) (0, 0, 0, 0, 0, 0, false, (0, 0), 0, 0)).1 == 22) then
      bif inRange i (List.length l_1) then
      let y0 : Action := List.getD l_1 (Int.toNat i) (0, 0, 0, 0, 0, 0, false, (0, 0), 0, 0)
      let y1 : (Int × (Int × (Int × (Int × Oxm)))) := y0.2
      let y2 : (Int × (Int × (Int × Oxm))) := y1.2
      let y3 : (Int × (Int × Oxm)) := y2.2
      let y4 : Int := y3.1
      bif decide ((List.length out + List.length ([y4] : (List Int))) * 8 ≤ 140737488355328) then
      k0 (out ++ ([y4] : (List Int))) (IntKind.wrap .i64 (i + 1))
      else none
      else none
    else
    k0 out (IntKind.wrap .i64 (i + 1))
    else none
  else
  some out

def ref13_Groups.l0 (n : Nat) (l_1 : (List Action)) : Nat → (List Int) → Int → Option (List Int)
  | 0, _, _ => none
  | m + 1, out, i => ref13_Groups.s0 n (fun out' i' => ref13_Groups.l0 n l_1 m out' i') l_1 out i

def ref13_Groups.s (n : Nat) (k0 : ((List Action) → (List Int) → Int → Option (List Int))) (l : (List Action)) : Option (List Int) :=
  k0 l ([] : (List Int)) 0

def ref13_Groups (n : Nat) (l : (List Action)) : Option (List Int) := ref13_Groups.s n (fun l_1 out i => ref13_Groups.l0 n l_1 n out i) l

def ref24_Names.s0 (n : Nat) (k0 : ((List Int) → Int → Option (List Int))) (l_1 : (List Bucket)) (out : (List Int)) (i : Int) : Option (List Int) :=
  bif decide (i < ((List.length l_1 : Nat) : Int)) then
    bif inRange i (List.length l_1) then
    obind (ref13_Groups n (List.getD l_1 (Int.toNat i) (0, 0, 0, ([] : (List Action)))).2.2.2) fun (r121 : (List Int)) =>
    bif decide ((List.length out + List.length r121) * 8 ≤ 140737488355328) then
    k0 (out ++ r121) (IntKind.wrap .i64 (i + 1))
    else none
    else none
  else
  some out

def ref24_Names.l0 (n : Nat) (l_1 : (List Bucket)) : Nat → (List Int) → Int → Option (List Int)
  | 0, _, _ => none
  | m + 1, out, i => ref24_Names.s0 n (fun out' i' => ref24_Names.l0 n l_1 m out' i') l_1 out i

def ref24_Names.s (n : Nat) (k0 : ((List Bucket) → (List Int) → Int → Option (List Int))) (l : (List Bucket)) : Option (List Int) :=
  k0 l ([] : (List Int)) 0

def ref24_Names (n : Nat) (l : (List Bucket)) : Option (List Int) := ref24_Names.s n (fun l_1 out i => ref24_Names.l0 n l_1 n out i) l

def ref24_named.s1 (n : Nat) (k1 : (Int → Option Bool)) (k0 : ((List Group) → Int → Int → Option Bool)) (l_2 : (List Group)) (id1_2 : Int) (i_1 : Int) (names : (List Int)) (j : Int) : Option Bool :=
  bif decide (j < ((List.length names : Nat) : Int)) then
    bif inRange j (List.length names) then
    bif (((List.getD names (Int.toNat j) 0) == id1_2) == true) then
      bif inRange i_1 (List.length l_2) then
      bif ((List.getD l_2 (Int.toNat i_1) (0, 0, ([] : (List Bucket)))).1 != id1_2) then
        some true
      else
      k1 (IntKind.wrap .i64 (j + 1))
      else none
    else
    k1 (IntKind.wrap .i64 (j + 1))
    else none
  else
  k0 l_2 id1_2 (IntKind.wrap .i64 (i_1 + 1))

def ref24_named.l1 (n : Nat) (l_2 : (List Group)) (id1_2 : Int) (i_1 : Int) (names : (List Int)) (k0 : ((List Group) → Int → Int → Option Bool)) : Nat → Int → Option Bool
  | 0, _ => none
  | m + 1, j => ref24_named.s1 n (fun j' => ref24_named.l1 n l_2 id1_2 i_1 names k0 m j') k0 l_2 id1_2 i_1 names j

def ref24_named.s0 (n : Nat) (k1 : ((List Group) → Int → Int → (List Int) → Int → Option Bool)) (l_1 : (List Group)) (id1_1 : Int) (i : Int) : Option Bool :=
  bif decide (i < ((List.length l_1 : Nat) : Int)) then
    bif inRange i (List.length l_1) then
    obind (ref24_Names n (List.getD l_1 (Int.toNat i) (0, 0, ([] : (List Bucket)))).2.2) fun (r122 : (List Int)) =>
    k1 l_1 id1_1 i r122 0
    else none
  else
  some false

def ref24_named.l0 (n : Nat) (l_1 : (List Group)) (id1_1 : Int) : Nat → Int → Option Bool
  | 0, _ => none
  | m + 1, i => ref24_named.s0 n (fun l_2' id1_2' i_1' names' j' => ref24_named.l1 n l_2' id1_2' i_1' names' (fun l_1'' id1_1'' i'' => ref24_named.l0 n l_1'' id1_1'' m i'') n j') l_1 id1_1 i

def ref24_named.s (n : Nat) (k0 : ((List Group) → Int → Int → Option Bool)) (l : (List Group)) (id1 : Int) : Option Bool :=
  k0 l id1 0

def ref24_named (n : Nat) (l : (List Group)) (id1 : Int) : Option Bool := ref24_named.s n (fun l_1 id1_1 i => ref24_named.l0 n l_1 id1_1 n i) l id1

def ref24_gone.s0 (n : Nat) (k0 : ((List Group) → Int → Option ((List Group) × Fault))) (l_1 : (List Group)) (id1_1 : Int) (out : (List Group)) (i : Int) (v5 : Fault) : Option ((List Group) × Fault) :=
  bif decide (i < ((List.length l_1 : Nat) : Int)) then
    bif inRange i (List.length l_1) then
    bif ((List.getD l_1 (Int.toNat i) (0, 0, ([] : (List Bucket)))).1 != id1_1) then
      bif inRange i (List.length l_1) then
      let y0 : Group := List.getD l_1 (Int.toNat i) (0, 0, ([] : (List Bucket)))
      bif decide ((List.length out + List.length ([y0] : (List Group))) * 40 ≤ 140737488355328) then
      k0 (out ++ ([y0] : (List Group))) (IntKind.wrap .i64 (i + 1))
      else none
      else none
    else
    k0 out (IntKind.wrap .i64 (i + 1))
    else none
  else
  some (out, (false, 0, 0))

def ref24_gone.l0 (n : Nat) (l_1 : (List Group)) (id1_1 : Int) (v5 : Fault) : Nat → (List Group) → Int → Option ((List Group) × Fault)
  | 0, _, _ => none
  | m + 1, out, i => ref24_gone.s0 n (fun out' i' => ref24_gone.l0 n l_1 id1_1 v5 m out' i') l_1 id1_1 out i v5

def ref24_gone.s (n : Nat) (k0 : ((List Group) → Int → (List Group) → Int → Fault → Option ((List Group) × Fault))) (l : (List Group)) (id1 : Int) : Option ((List Group) × Fault) :=
  bif (id1 == 4294967292) then
    some (([] : (List Group)), (false, 0, 0))
  else
  bif ((decide (id1 < 0)) == false) then
    bif decide (id1 > 4294967040) then
      obind (some (ref24_bad 1)) fun (r119 : Fault) =>
      some (([] : (List Group)), r119)
    else
    obind (ref24_place n l id1) fun (r120 : Int) =>
    bif ((decide (r120 ≥ 0)) == true) then
      obind (ref24_named n l id1) fun (r123 : Bool) =>
      bif r123 then
        obind (some (ref24_bad 9)) fun (r124 : Fault) =>
        some (([] : (List Group)), r124)
      else
      k0 l id1 ([] : (List Group)) 0 (false, 0, 0)
    else
    k0 l id1 ([] : (List Group)) 0 (false, 0, 0)
  else
  obind (some (ref24_bad 1)) fun (r125 : Fault) =>
  some (([] : (List Group)), r125)

def ref24_gone (n : Nat) (l : (List Group)) (id1 : Int) : Option ((List Group) × Fault) := ref24_gone.s n (fun l_1 id1_1 out i v5 => ref24_gone.l0 n l_1 id1_1 v5 n out i) l id1

def ref24_one (kind : Int) (x : Bucket) : Fault :=
  bif (x.2.2.1 != 4294967295) then
    let r136 : Fault := ref24_bad 6
    r136
  else
  bif ((kind == 1) == true) then
    bif (x.1 != 1) then
      let r137 : Fault := ref24_bad 2
      r137
    else
    bif ((kind != 1) == true) then
      bif (x.1 != 0) then
        let r138 : Fault := ref24_bad 1
        r138
      else
      bif ((kind == 3) == true) then
        bif ((decide (x.2.1 < 1)) == false) then
          bif decide (x.2.1 > 6) then
            let r139 : Fault := ref24_bad 13
            r139
          else
          bif ((kind != 3) == true) then
            bif (x.2.1 != 4294967295) then
              let r140 : Fault := ref24_bad 13
              r140
            else
            (false, 0, 0)
          else
          (false, 0, 0)
        else
        let r141 : Fault := ref24_bad 13
        r141
      else
      bif ((kind != 3) == true) then
        bif (x.2.1 != 4294967295) then
          let r142 : Fault := ref24_bad 13
          r142
        else
        (false, 0, 0)
      else
      (false, 0, 0)
    else
    bif ((kind == 3) == true) then
      bif ((decide (x.2.1 < 1)) == false) then
        bif decide (x.2.1 > 6) then
          let r143 : Fault := ref24_bad 13
          r143
        else
        bif ((kind != 3) == true) then
          bif (x.2.1 != 4294967295) then
            let r144 : Fault := ref24_bad 13
            r144
          else
          (false, 0, 0)
        else
        (false, 0, 0)
      else
      let r145 : Fault := ref24_bad 13
      r145
    else
    bif ((kind != 3) == true) then
      bif (x.2.1 != 4294967295) then
        let r146 : Fault := ref24_bad 13
        r146
      else
      (false, 0, 0)
    else
    (false, 0, 0)
  else
  bif ((kind != 1) == true) then
    bif (x.1 != 0) then
      let r147 : Fault := ref24_bad 1
      r147
    else
    bif ((kind == 3) == true) then
      bif ((decide (x.2.1 < 1)) == false) then
        bif decide (x.2.1 > 6) then
          let r148 : Fault := ref24_bad 13
          r148
        else
        bif ((kind != 3) == true) then
          bif (x.2.1 != 4294967295) then
            let r149 : Fault := ref24_bad 13
            r149
          else
          (false, 0, 0)
        else
        (false, 0, 0)
      else
      let r150 : Fault := ref24_bad 13
      r150
    else
    bif ((kind != 3) == true) then
      bif (x.2.1 != 4294967295) then
        let r151 : Fault := ref24_bad 13
        r151
      else
      (false, 0, 0)
    else
    (false, 0, 0)
  else
  bif ((kind == 3) == true) then
    bif ((decide (x.2.1 < 1)) == false) then
      bif decide (x.2.1 > 6) then
        let r152 : Fault := ref24_bad 13
        r152
      else
      bif ((kind != 3) == true) then
        bif (x.2.1 != 4294967295) then
          let r153 : Fault := ref24_bad 13
          r153
        else
        (false, 0, 0)
      else
      (false, 0, 0)
    else
    let r154 : Fault := ref24_bad 13
    r154
  else
  bif ((kind != 3) == true) then
    bif (x.2.1 != 4294967295) then
      let r155 : Fault := ref24_bad 13
      r155
    else
    (false, 0, 0)
  else
  (false, 0, 0)
def ref24_one.o (kind : Int) (x : Bucket) : Option Fault :=
  bif (x.2.2.1 != 4294967295) then
    obind (some (ref24_bad 6)) fun (r136 : Fault) =>
    some r136
  else
  bif ((kind == 1) == true) then
    bif (x.1 != 1) then
      obind (some (ref24_bad 2)) fun (r137 : Fault) =>
      some r137
    else
    bif ((kind != 1) == true) then
      bif (x.1 != 0) then
        obind (some (ref24_bad 1)) fun (r138 : Fault) =>
        some r138
      else
      bif ((kind == 3) == true) then
        bif ((decide (x.2.1 < 1)) == false) then
          bif decide (x.2.1 > 6) then
            obind (some (ref24_bad 13)) fun (r139 : Fault) =>
            some r139
          else
          bif ((kind != 3) == true) then
            bif (x.2.1 != 4294967295) then
              obind (some (ref24_bad 13)) fun (r140 : Fault) =>
              some r140
            else
            some (false, 0, 0)
          else
          some (false, 0, 0)
        else
        obind (some (ref24_bad 13)) fun (r141 : Fault) =>
        some r141
      else
      bif ((kind != 3) == true) then
        bif (x.2.1 != 4294967295) then
          obind (some (ref24_bad 13)) fun (r142 : Fault) =>
          some r142
        else
        some (false, 0, 0)
      else
      some (false, 0, 0)
    else
    bif ((kind == 3) == true) then
      bif ((decide (x.2.1 < 1)) == false) then
        bif decide (x.2.1 > 6) then
          obind (some (ref24_bad 13)) fun (r143 : Fault) =>
          some r143
        else
        bif ((kind != 3) == true) then
          bif (x.2.1 != 4294967295) then
            obind (some (ref24_bad 13)) fun (r144 : Fault) =>
            some r144
          else
          some (false, 0, 0)
        else
        some (false, 0, 0)
      else
      obind (some (ref24_bad 13)) fun (r145 : Fault) =>
      some r145
    else
    bif ((kind != 3) == true) then
      bif (x.2.1 != 4294967295) then
        obind (some (ref24_bad 13)) fun (r146 : Fault) =>
        some r146
      else
      some (false, 0, 0)
    else
    some (false, 0, 0)
  else
  bif ((kind != 1) == true) then
    bif (x.1 != 0) then
      obind (some (ref24_bad 1)) fun (r147 : Fault) =>
      some r147
    else
    bif ((kind == 3) == true) then
      bif ((decide (x.2.1 < 1)) == false) then
        bif decide (x.2.1 > 6) then
          obind (some (ref24_bad 13)) fun (r148 : Fault) =>
          some r148
        else
        bif ((kind != 3) == true) then
          bif (x.2.1 != 4294967295) then
            obind (some (ref24_bad 13)) fun (r149 : Fault) =>
            some r149
          else
          some (false, 0, 0)
        else
        some (false, 0, 0)
      else
      obind (some (ref24_bad 13)) fun (r150 : Fault) =>
      some r150
    else
    bif ((kind != 3) == true) then
      bif (x.2.1 != 4294967295) then
        obind (some (ref24_bad 13)) fun (r151 : Fault) =>
        some r151
      else
      some (false, 0, 0)
    else
    some (false, 0, 0)
  else
  bif ((kind == 3) == true) then
    bif ((decide (x.2.1 < 1)) == false) then
      bif decide (x.2.1 > 6) then
        obind (some (ref24_bad 13)) fun (r152 : Fault) =>
        some r152
      else
      bif ((kind != 3) == true) then
        bif (x.2.1 != 4294967295) then
          obind (some (ref24_bad 13)) fun (r153 : Fault) =>
          some r153
        else
        some (false, 0, 0)
      else
      some (false, 0, 0)
    else
    obind (some (ref24_bad 13)) fun (r154 : Fault) =>
    some r154
  else
  bif ((kind != 3) == true) then
    bif (x.2.1 != 4294967295) then
      obind (some (ref24_bad 13)) fun (r155 : Fault) =>
      some r155
    else
    some (false, 0, 0)
  else
  some (false, 0, 0)
theorem ref24_one.o_eq (kind : Int) (x : Bucket) : ref24_one.o kind x = some (ref24_one kind x) := by simp only [ref24_one.o, ref24_one, cond_some, obind_some]

def ref24_Check.s0 (n : Nat) (k0 : (Int → Option Fault)) (kind_1 : Int) (l_1 : (List Bucket)) (i : Int) (v4 : Fault) : Option Fault :=
  bif decide (i < ((List.length l_1 : Nat) : Int)) then
    bif inRange i (List.length l_1) then
    obind (some (ref24_one kind_1 (List.getD l_1 (Int.toNat i) (0, 0, 0, ([] : (List Action)))))) fun (r156 : Fault) =>
    bif r156.1 then
      some r156
    else
    k0 (IntKind.wrap .i64 (i + 1))
    else none
  else
  some (false, 0, 0)

def ref24_Check.l0 (n : Nat) (kind_1 : Int) (l_1 : (List Bucket)) (v4 : Fault) : Nat → Int → Option Fault
  | 0, _ => none
  | m + 1, i => ref24_Check.s0 n (fun i' => ref24_Check.l0 n kind_1 l_1 v4 m i') kind_1 l_1 i v4

def ref24_Check.s (n : Nat) (k0 : (Int → (List Bucket) → Int → Fault → Option Fault)) (kind : Int) (l : (List Bucket)) : Option Fault :=
  bif ((decide (kind < 0)) == false) then
    bif decide (kind > 3) then
      obind (some (ref24_bad 10)) fun (r133 : Fault) =>
      some r133
    else
    bif decide (((List.length l : Nat) : Int) > 4) then
      obind (some (ref24_bad 4)) fun (r134 : Fault) =>
      some r134
    else
    bif ((kind == 2) == true) then
      bif (((List.length l : Nat) : Int) != 1) then
        obind (some (ref24_bad 1)) fun (r135 : Fault) =>
        some r135
      else
      k0 kind l 0 (false, 0, 0)
    else
    k0 kind l 0 (false, 0, 0)
  else
  obind (some (ref24_bad 10)) fun (r157 : Fault) =>
  some r157

def ref24_Check (n : Nat) (kind : Int) (l : (List Bucket)) : Option Fault := ref24_Check.s n (fun kind_1 l_1 i v4 => ref24_Check.l0 n kind_1 l_1 v4 n i) kind l

def ref24_there.s0 (n : Nat) (k0 : (Int → Option Bool)) (l_1 : (List Group)) (names : (List Int)) (i : Int) : Option Bool :=
  bif decide (i < ((List.length names : Nat) : Int)) then
    bif inRange i (List.length names) then
    obind (ref24_place n l_1 (List.getD names (Int.toNat i) 0)) fun (r160 : Int) =>
    bif decide (r160 < 0) then
      some false
    else
    k0 (IntKind.wrap .i64 (i + 1))
    else none
  else
  some true

def ref24_there.l0 (n : Nat) (l_1 : (List Group)) (names : (List Int)) : Nat → Int → Option Bool
  | 0, _ => none
  | m + 1, i => ref24_there.s0 n (fun i' => ref24_there.l0 n l_1 names m i') l_1 names i

def ref24_there.s (n : Nat) (k0 : ((List Group) → (List Int) → Int → Option Bool)) (l : (List Group)) (b : (List Bucket)) : Option Bool :=
  obind (ref24_Names n b) fun (r159 : (List Int)) =>
  k0 l r159 0

def ref24_there (n : Nat) (l : (List Group)) (b : (List Bucket)) : Option Bool := ref24_there.s n (fun l_1 names i => ref24_there.l0 n l_1 names n i) l b

def ref24_comes.s1 (n : Nat) (k1 : ((List Int) → Int → (List Bool) → Option (List Bool))) (k0 : ((List Group) → (List Int) → (List Bool) → Option (List Bool))) (l_2 : (List Group)) (todo_1 : (List Int)) (names : (List Int)) (i : Int) (v12_1 : (List Bool)) : Option (List Bool) :=
  bif decide (i < ((List.length names : Nat) : Int)) then
    bif inRange i (List.length names) then
    obind (ref24_place n l_2 (List.getD names (Int.toNat i) 0)) fun (r163 : Int) =>
    bif ((decide (r163 ≥ 0)) == true) then
      bif inRange r163 (List.length v12_1) then
      bif !(List.getD v12_1 (Int.toNat r163) false) then
        bif inRange r163 (List.length v12_1) then
        bif decide ((List.length todo_1 + List.length ([r163] : (List Int))) * 8 ≤ 140737488355328) then
        k1 (todo_1 ++ ([r163] : (List Int))) (IntKind.wrap .i64 (i + 1)) (List.set v12_1 (Int.toNat r163) true)
        else none
        else none
      else
      k1 todo_1 (IntKind.wrap .i64 (i + 1)) v12_1
      else none
    else
    k1 todo_1 (IntKind.wrap .i64 (i + 1)) v12_1
    else none
  else
  k0 l_2 todo_1 v12_1

def ref24_comes.l1 (n : Nat) (l_2 : (List Group)) (names : (List Int)) (k0 : ((List Group) → (List Int) → (List Bool) → Option (List Bool))) : Nat → (List Int) → Int → (List Bool) → Option (List Bool)
  | 0, _, _, _ => none
  | m + 1, todo_1, i, v12_1 => ref24_comes.s1 n (fun todo_1' i' v12_1' => ref24_comes.l1 n l_2 names k0 m todo_1' i' v12_1') k0 l_2 todo_1 names i v12_1

def ref24_comes.s0 (n : Nat) (k1 : ((List Group) → (List Int) → (List Int) → Int → (List Bool) → Option (List Bool))) (l_1 : (List Group)) (todo : (List Int)) (v12 : (List Bool)) : Option (List Bool) :=
  bif decide (((List.length todo : Nat) : Int) > 0) then
    bif inRange 0 (List.length todo) then
    bif inRange (List.getD todo 0 0) (List.length l_1) then
    obind (ref24_Names n (List.getD l_1 (Int.toNat (List.getD todo 0 0)) (0, 0, ([] : (List Bucket)))).2.2) fun (r162 : (List Int)) =>
    bif decide (1 ≤ ((List.length todo : Nat) : Int)) then
    k1 l_1 (List.drop 1 todo) r162 0 v12
    else none
    else none
    else none
  else
  some v12

def ref24_comes.l0 (n : Nat) (l_1 : (List Group)) : Nat → (List Int) → (List Bool) → Option (List Bool)
  | 0, _, _ => none
  | m + 1, todo, v12 => ref24_comes.s0 n (fun l_2' todo_1' names' i' v12_1' => ref24_comes.l1 n l_2' names' (fun l_1'' todo'' v12'' => ref24_comes.l0 n l_1'' m todo'' v12'') n todo_1' i' v12_1') l_1 todo v12

def ref24_comes.s (n : Nat) (k0 : ((List Group) → (List Int) → (List Bool) → Option (List Bool))) (l : (List Group)) (from1 : Int) : Option (List Bool) :=
  bif ((decide (0 ≤ ((List.length l : Nat) : Int))) && ((decide (((List.length l : Nat) : Int) ≤ ((List.length l : Nat) : Int))) && (decide (((List.length l : Nat) : Int) * ((1 : Nat) : Int) ≤ 281474976710656)))) then
  k0 l ([from1] : (List Int)) (List.replicate (Int.toNat ((List.length l : Nat) : Int)) false)
  else none

def ref24_comes (n : Nat) (l : (List Group)) (from1 : Int) : Option (List Bool) := ref24_comes.s n (fun l_1 todo v12 => ref24_comes.l0 n l_1 n todo v12) l from1

def ref24_Loop.s1 (n : Nat) (k1 : (Int → Option Bool)) (k0 : ((List Group) → Int → Option Bool)) (l_2 : (List Group)) (i_1 : Int) (is : (List Bool)) (j : Int) : Option Bool :=
  bif decide (j < ((List.length l_2 : Nat) : Int)) then
    bif inRange j (List.length is) then
    bif ((List.getD is (Int.toNat j) false) == true) then
      bif inRange j (List.length l_2) then
      bif inRange i_1 (List.length l_2) then
      bif ((List.getD l_2 (Int.toNat j) (0, 0, ([] : (List Bucket)))).1 == (List.getD l_2 (Int.toNat i_1) (0, 0, ([] : (List Bucket)))).1) then
        some true
      else
      k1 (IntKind.wrap .i64 (j + 1))
      else none
      else none
    else
    k1 (IntKind.wrap .i64 (j + 1))
    else none
  else
  k0 l_2 (IntKind.wrap .i64 (i_1 + 1))

def ref24_Loop.l1 (n : Nat) (l_2 : (List Group)) (i_1 : Int) (is : (List Bool)) (k0 : ((List Group) → Int → Option Bool)) : Nat → Int → Option Bool
  | 0, _ => none
  | m + 1, j => ref24_Loop.s1 n (fun j' => ref24_Loop.l1 n l_2 i_1 is k0 m j') k0 l_2 i_1 is j

def ref24_Loop.s0 (n : Nat) (k1 : ((List Group) → Int → (List Bool) → Int → Option Bool)) (l_1 : (List Group)) (i : Int) : Option Bool :=
  bif decide (i < ((List.length l_1 : Nat) : Int)) then
    obind (ref24_comes n l_1 i) fun (r164 : (List Bool)) =>
    k1 l_1 i r164 0
  else
  some false

def ref24_Loop.l0 (n : Nat) (l_1 : (List Group)) : Nat → Int → Option Bool
  | 0, _ => none
  | m + 1, i => ref24_Loop.s0 n (fun l_2' i_1' is' j' => ref24_Loop.l1 n l_2' i_1' is' (fun l_1'' i'' => ref24_Loop.l0 n l_1'' m i'') n j') l_1 i

def ref24_Loop.s (n : Nat) (k0 : ((List Group) → Int → Option Bool)) (l : (List Group)) : Option Bool :=
  k0 l 0

def ref24_Loop (n : Nat) (l : (List Group)) : Option Bool := ref24_Loop.s n (fun l_1 i => ref24_Loop.l0 n l_1 n i) l

def ref24_Do (n : Nat) (l : (List Group)) (m1 : GroupMod) : Option ((List Group) × Fault) :=
  bif (m1.1 == 2) then
    obind (ref24_gone n l m1.2.2.1) fun (r126 : ((List Group) × Fault)) =>
    some (r126.1, r126.2)
  else
  bif ((m1.1 != 0) == true) then
    bif (m1.1 != 1) then
      obind (some (ref24_bad 11)) fun (r127 : Fault) =>
      some (([] : (List Group)), r127)
    else
    obind (ref24_place n l m1.2.2.1) fun (r128 : Int) =>
    bif ((decide (m1.2.2.1 < 0)) == false) then
      bif decide (m1.2.2.1 > 4294967040) then
        obind (some (ref24_bad 1)) fun (r129 : Fault) =>
        some (([] : (List Group)), r129)
      else
      bif ((m1.1 == 0) == true) then
        bif decide (r128 ≥ 0) then
          obind (some (ref24_bad 0)) fun (r130 : Fault) =>
          some (([] : (List Group)), r130)
        else
        bif ((m1.1 == 0) == true) then
          bif decide (((List.length l : Nat) : Int) ≥ 8) then
            obind (some (ref24_bad 3)) fun (r131 : Fault) =>
            some (([] : (List Group)), r131)
          else
          bif ((m1.1 == 1) == true) then
            bif decide (r128 < 0) then
              obind (some (ref24_bad 8)) fun (r132 : Fault) =>
              some (([] : (List Group)), r132)
            else
            obind (ref24_Check n m1.2.1 m1.2.2.2) fun (r158 : Fault) =>
            bif r158.1 then
              some (([] : (List Group)), r158)
            else
            bif decide ((List.length ([] : (List Group)) + List.length l) * 40 ≤ 140737488355328) then
            bif decide (r128 ≥ 0) then
              bif inRange r128 (List.length l) then
              let y0 : (List Group) := List.set l (Int.toNat r128) (m1.2.2.1, m1.2.1, m1.2.2.2)
              obind (ref24_there n y0 m1.2.2.2) fun (r161 : Bool) =>
              bif !r161 then
                some (([] : (List Group)), (true, 2, 9))
              else
              obind (ref24_Loop n y0) fun (r165 : Bool) =>
              bif r165 then
                obind (some (ref24_bad 7)) fun (r166 : Fault) =>
                some (([] : (List Group)), r166)
              else
              some (y0, (false, 0, 0))
              else none
            else
            bif decide ((List.length l + List.length ([(m1.2.2.1, m1.2.1, m1.2.2.2)] : (List Group))) * 40 ≤ 140737488355328) then
            let y1 : (List Group) := (l ++ ([(m1.2.2.1, m1.2.1, m1.2.2.2)] : (List Group)))
            obind (ref24_there n y1 m1.2.2.2) fun (r167 : Bool) =>
            bif !r167 then
              some (([] : (List Group)), (true, 2, 9))
            else
            obind (ref24_Loop n y1) fun (r168 : Bool) =>
            bif r168 then
              obind (some (ref24_bad 7)) fun (r169 : Fault) =>
              some (([] : (List Group)), r169)
            else
            some (y1, (false, 0, 0))
            else none
            else none
          else
          obind (ref24_Check n m1.2.1 m1.2.2.2) fun (r170 : Fault) =>
          bif r170.1 then
            some (([] : (List Group)), r170)
          else
          bif decide ((List.length ([] : (List Group)) + List.length l) * 40 ≤ 140737488355328) then
          bif decide (r128 ≥ 0) then
            bif inRange r128 (List.length l) then
            let y2 : (List Group) := List.set l (Int.toNat r128) (m1.2.2.1, m1.2.1, m1.2.2.2)
            obind (ref24_there n y2 m1.2.2.2) fun (r171 : Bool) =>
            bif !r171 then
              some (([] : (List Group)), (true, 2, 9))
            else
            obind (ref24_Loop n y2) fun (r172 : Bool) =>
            bif r172 then
              obind (some (ref24_bad 7)) fun (r173 : Fault) =>
              some (([] : (List Group)), r173)
            else
            some (y2, (false, 0, 0))
            else none
          else
          bif decide ((List.length l + List.length ([(m1.2.2.1, m1.2.1, m1.2.2.2)] : (List Group))) * 40 ≤ 140737488355328) then
          let y3 : (List Group) := (l ++ ([(m1.2.2.1, m1.2.1, m1.2.2.2)] : (List Group)))
          obind (ref24_there n y3 m1.2.2.2) fun (r174 : Bool) =>
          bif !r174 then
            some (([] : (List Group)), (true, 2, 9))
          else
          obind (ref24_Loop n y3) fun (r175 : Bool) =>
          bif r175 then
            obind (some (ref24_bad 7)) fun (r176 : Fault) =>
            some (([] : (List Group)), r176)
          else
          some (y3, (false, 0, 0))
          else none
          else none
        else
        bif ((m1.1 == 1) == true) then
          bif decide (r128 < 0) then
            obind (some (ref24_bad 8)) fun (r177 : Fault) =>
            some (([] : (List Group)), r177)
          else
          obind (ref24_Check n m1.2.1 m1.2.2.2) fun (r178 : Fault) =>
          bif r178.1 then
            some (([] : (List Group)), r178)
          else
          bif decide ((List.length ([] : (List Group)) + List.length l) * 40 ≤ 140737488355328) then
          bif decide (r128 ≥ 0) then
            bif inRange r128 (List.length l) then
            let y4 : (List Group) := List.set l (Int.toNat r128) (m1.2.2.1, m1.2.1, m1.2.2.2)
            obind (ref24_there n y4 m1.2.2.2) fun (r179 : Bool) =>
            bif !r179 then
              some (([] : (List Group)), (true, 2, 9))
            else
            obind (ref24_Loop n y4) fun (r180 : Bool) =>
            bif r180 then
              obind (some (ref24_bad 7)) fun (r181 : Fault) =>
              some (([] : (List Group)), r181)
            else
            some (y4, (false, 0, 0))
            else none
          else
          bif decide ((List.length l + List.length ([(m1.2.2.1, m1.2.1, m1.2.2.2)] : (List Group))) * 40 ≤ 140737488355328) then
          let y5 : (List Group) := (l ++ ([(m1.2.2.1, m1.2.1, m1.2.2.2)] : (List Group)))
          obind (ref24_there n y5 m1.2.2.2) fun (r182 : Bool) =>
          bif !r182 then
            some (([] : (List Group)), (true, 2, 9))
          else
          obind (ref24_Loop n y5) fun (r183 : Bool) =>
          bif r183 then
            obind (some (ref24_bad 7)) fun (r184 : Fault) =>
            some (([] : (List Group)), r184)
          else
          some (y5, (false, 0, 0))
          else none
          else none
        else
        obind (ref24_Check n m1.2.1 m1.2.2.2) fun (r185 : Fault) =>
        bif r185.1 then
          some (([] : (List Group)), r185)
        else
        bif decide ((List.length ([] : (List Group)) + List.length l) * 40 ≤ 140737488355328) then
        bif decide (r128 ≥ 0) then
          bif inRange r128 (List.length l) then
          let y6 : (List Group) := List.set l (Int.toNat r128) (m1.2.2.1, m1.2.1, m1.2.2.2)
          obind (ref24_there n y6 m1.2.2.2) fun (r186 : Bool) =>
          bif !r186 then
            some (([] : (List Group)), (true, 2, 9))
          else
          obind (ref24_Loop n y6) fun (r187 : Bool) =>
          bif r187 then
            obind (some (ref24_bad 7)) fun (r188 : Fault) =>
            some (([] : (List Group)), r188)
          else
          some (y6, (false, 0, 0))
          else none
        else
        bif decide ((List.length l + List.length ([(m1.2.2.1, m1.2.1, m1.2.2.2)] : (List Group))) * 40 ≤ 140737488355328) then
        let y7 : (List Group) := (l ++ ([(m1.2.2.1, m1.2.1, m1.2.2.2)] : (List Group)))
        obind (ref24_there n y7 m1.2.2.2) fun (r189 : Bool) =>
        bif !r189 then
          some (([] : (List Group)), (true, 2, 9))
        else
        obind (ref24_Loop n y7) fun (r190 : Bool) =>
        bif r190 then
          obind (some (ref24_bad 7)) fun (r191 : Fault) =>
          some (([] : (List Group)), r191)
        else
        some (y7, (false, 0, 0))
        else none
        else none
      else
      bif ((m1.1 == 0) == true) then
        bif decide (((List.length l : Nat) : Int) ≥ 8) then
          obind (some (ref24_bad 3)) fun (r192 : Fault) =>
          some (([] : (List Group)), r192)
        else
        bif ((m1.1 == 1) == true) then
          bif decide (r128 < 0) then
            obind (some (ref24_bad 8)) fun (r193 : Fault) =>
            some (([] : (List Group)), r193)
          else
          obind (ref24_Check n m1.2.1 m1.2.2.2) fun (r194 : Fault) =>
          bif r194.1 then
            some (([] : (List Group)), r194)
          else
          bif decide ((List.length ([] : (List Group)) + List.length l) * 40 ≤ 140737488355328) then
          bif decide (r128 ≥ 0) then
            bif inRange r128 (List.length l) then
            let y8 : (List Group) := List.set l (Int.toNat r128) (m1.2.2.1, m1.2.1, m1.2.2.2)
            obind (ref24_there n y8 m1.2.2.2) fun (r195 : Bool) =>
            bif !r195 then
              some (([] : (List Group)), (true, 2, 9))
            else
            obind (ref24_Loop n y8) fun (r196 : Bool) =>
            bif r196 then
              obind (some (ref24_bad 7)) fun (r197 : Fault) =>
              some (([] : (List Group)), r197)
            else
            some (y8, (false, 0, 0))
            else none
          else
          bif decide ((List.length l + List.length ([(m1.2.2.1, m1.2.1, m1.2.2.2)] : (List Group))) * 40 ≤ 140737488355328) then
          let y9 : (List Group) := (l ++ ([(m1.2.2.1, m1.2.1, m1.2.2.2)] : (List Group)))
          obind (ref24_there n y9 m1.2.2.2) fun (r198 : Bool) =>
          bif !r198 then
            some (([] : (List Group)), (true, 2, 9))
          else
          obind (ref24_Loop n y9) fun (r199 : Bool) =>
          bif r199 then
            obind (some (ref24_bad 7)) fun (r200 : Fault) =>
            some (([] : (List Group)), r200)
          else
          some (y9, (false, 0, 0))
          else none
          else none
        else
        obind (ref24_Check n m1.2.1 m1.2.2.2) fun (r201 : Fault) =>
        bif r201.1 then
          some (([] : (List Group)), r201)
        else
        bif decide ((List.length ([] : (List Group)) + List.length l) * 40 ≤ 140737488355328) then
        bif decide (r128 ≥ 0) then
          bif inRange r128 (List.length l) then
          let y10 : (List Group) := List.set l (Int.toNat r128) (m1.2.2.1, m1.2.1, m1.2.2.2)
          obind (ref24_there n y10 m1.2.2.2) fun (r202 : Bool) =>
          bif !r202 then
            some (([] : (List Group)), (true, 2, 9))
          else
          obind (ref24_Loop n y10) fun (r203 : Bool) =>
          bif r203 then
            obind (some (ref24_bad 7)) fun (r204 : Fault) =>
            some (([] : (List Group)), r204)
          else
          some (y10, (false, 0, 0))
          else none
        else
        bif decide ((List.length l + List.length ([(m1.2.2.1, m1.2.1, m1.2.2.2)] : (List Group))) * 40 ≤ 140737488355328) then
        let y11 : (List Group) := (l ++ ([(m1.2.2.1, m1.2.1, m1.2.2.2)] : (List Group)))
        obind (ref24_there n y11 m1.2.2.2) fun (r205 : Bool) =>
        bif !r205 then
          some (([] : (List Group)), (true, 2, 9))
        else
        obind (ref24_Loop n y11) fun (r206 : Bool) =>
        bif r206 then
          obind (some (ref24_bad 7)) fun (r207 : Fault) =>
          some (([] : (List Group)), r207)
        else
        some (y11, (false, 0, 0))
        else none
        else none
      else
      bif ((m1.1 == 1) == true) then
        bif decide (r128 < 0) then
          obind (some (ref24_bad 8)) fun (r208 : Fault) =>
          some (([] : (List Group)), r208)
        else
        obind (ref24_Check n m1.2.1 m1.2.2.2) fun (r209 : Fault) =>
        bif r209.1 then
          some (([] : (List Group)), r209)
        else
        bif decide ((List.length ([] : (List Group)) + List.length l) * 40 ≤ 140737488355328) then
        bif decide (r128 ≥ 0) then
          bif inRange r128 (List.length l) then
          let y12 : (List Group) := List.set l (Int.toNat r128) (m1.2.2.1, m1.2.1, m1.2.2.2)
          obind (ref24_there n y12 m1.2.2.2) fun (r210 : Bool) =>
          bif !r210 then
            some (([] : (List Group)), (true, 2, 9))
          else
          obind (ref24_Loop n y12) fun (r211 : Bool) =>
          bif r211 then
            obind (some (ref24_bad 7)) fun (r212 : Fault) =>
            some (([] : (List Group)), r212)
          else
          some (y12, (false, 0, 0))
          else none
        else
        bif decide ((List.length l + List.length ([(m1.2.2.1, m1.2.1, m1.2.2.2)] : (List Group))) * 40 ≤ 140737488355328) then
        let y13 : (List Group) := (l ++ ([(m1.2.2.1, m1.2.1, m1.2.2.2)] : (List Group)))
        obind (ref24_there n y13 m1.2.2.2) fun (r213 : Bool) =>
        bif !r213 then
          some (([] : (List Group)), (true, 2, 9))
        else
        obind (ref24_Loop n y13) fun (r214 : Bool) =>
        bif r214 then
          obind (some (ref24_bad 7)) fun (r215 : Fault) =>
          some (([] : (List Group)), r215)
        else
        some (y13, (false, 0, 0))
        else none
        else none
      else
      obind (ref24_Check n m1.2.1 m1.2.2.2) fun (r216 : Fault) =>
      bif r216.1 then
        some (([] : (List Group)), r216)
      else
      bif decide ((List.length ([] : (List Group)) + List.length l) * 40 ≤ 140737488355328) then
      bif decide (r128 ≥ 0) then
        bif inRange r128 (List.length l) then
        let y14 : (List Group) := List.set l (Int.toNat r128) (m1.2.2.1, m1.2.1, m1.2.2.2)
        obind (ref24_there n y14 m1.2.2.2) fun (r217 : Bool) =>
        bif !r217 then
          some (([] : (List Group)), (true, 2, 9))
        else
        obind (ref24_Loop n y14) fun (r218 : Bool) =>
        bif r218 then
          obind (some (ref24_bad 7)) fun (r219 : Fault) =>
          some (([] : (List Group)), r219)
        else
        some (y14, (false, 0, 0))
        else none
      else
      bif decide ((List.length l + List.length ([(m1.2.2.1, m1.2.1, m1.2.2.2)] : (List Group))) * 40 ≤ 140737488355328) then
      let y15 : (List Group) := (l ++ ([(m1.2.2.1, m1.2.1, m1.2.2.2)] : (List Group)))
      obind (ref24_there n y15 m1.2.2.2) fun (r220 : Bool) =>
      bif !r220 then
        some (([] : (List Group)), (true, 2, 9))
      else
      obind (ref24_Loop n y15) fun (r221 : Bool) =>
      bif r221 then
        obind (some (ref24_bad 7)) fun (r222 : Fault) =>
        some (([] : (List Group)), r222)
      else
      some (y15, (false, 0, 0))
      else none
      else none
    else
    obind (some (ref24_bad 1)) fun (r223 : Fault) =>
    some (([] : (List Group)), r223)
  else
  obind (ref24_place n l m1.2.2.1) fun (r224 : Int) =>
  bif ((decide (m1.2.2.1 < 0)) == false) then
    bif decide (m1.2.2.1 > 4294967040) then
      obind (some (ref24_bad 1)) fun (r225 : Fault) =>
      some (([] : (List Group)), r225)
    else
    bif ((m1.1 == 0) == true) then
      bif decide (r224 ≥ 0) then
        obind (some (ref24_bad 0)) fun (r226 : Fault) =>
        some (([] : (List Group)), r226)
      else
      bif ((m1.1 == 0) == true) then
        bif decide (((List.length l : Nat) : Int) ≥ 8) then
          obind (some (ref24_bad 3)) fun (r227 : Fault) =>
          some (([] : (List Group)), r227)
        else
        bif ((m1.1 == 1) == true) then
          bif decide (r224 < 0) then
            obind (some (ref24_bad 8)) fun (r228 : Fault) =>
            some (([] : (List Group)), r228)
          else
          obind (ref24_Check n m1.2.1 m1.2.2.2) fun (r229 : Fault) =>
          bif r229.1 then
            some (([] : (List Group)), r229)
          else
          bif decide ((List.length ([] : (List Group)) + List.length l) * 40 ≤ 140737488355328) then
          bif decide (r224 ≥ 0) then
            bif inRange r224 (List.length l) then
            let y16 : (List Group) := List.set l (Int.toNat r224) (m1.2.2.1, m1.2.1, m1.2.2.2)
            obind (ref24_there n y16 m1.2.2.2) fun (r230 : Bool) =>
            bif !r230 then
              some (([] : (List Group)), (true, 2, 9))
            else
            obind (ref24_Loop n y16) fun (r231 : Bool) =>
            bif r231 then
              obind (some (ref24_bad 7)) fun (r232 : Fault) =>
              some (([] : (List Group)), r232)
            else
            some (y16, (false, 0, 0))
            else none
          else
          bif decide ((List.length l + List.length ([(m1.2.2.1, m1.2.1, m1.2.2.2)] : (List Group))) * 40 ≤ 140737488355328) then
          let y17 : (List Group) := (l ++ ([(m1.2.2.1, m1.2.1, m1.2.2.2)] : (List Group)))
          obind (ref24_there n y17 m1.2.2.2) fun (r233 : Bool) =>
          bif !r233 then
            some (([] : (List Group)), (true, 2, 9))
          else
          obind (ref24_Loop n y17) fun (r234 : Bool) =>
          bif r234 then
            obind (some (ref24_bad 7)) fun (r235 : Fault) =>
            some (([] : (List Group)), r235)
          else
          some (y17, (false, 0, 0))
          else none
          else none
        else
        obind (ref24_Check n m1.2.1 m1.2.2.2) fun (r236 : Fault) =>
        bif r236.1 then
          some (([] : (List Group)), r236)
        else
        bif decide ((List.length ([] : (List Group)) + List.length l) * 40 ≤ 140737488355328) then
        bif decide (r224 ≥ 0) then
          bif inRange r224 (List.length l) then
          let y18 : (List Group) := List.set l (Int.toNat r224) (m1.2.2.1, m1.2.1, m1.2.2.2)
          obind (ref24_there n y18 m1.2.2.2) fun (r237 : Bool) =>
          bif !r237 then
            some (([] : (List Group)), (true, 2, 9))
          else
          obind (ref24_Loop n y18) fun (r238 : Bool) =>
          bif r238 then
            obind (some (ref24_bad 7)) fun (r239 : Fault) =>
            some (([] : (List Group)), r239)
          else
          some (y18, (false, 0, 0))
          else none
        else
        bif decide ((List.length l + List.length ([(m1.2.2.1, m1.2.1, m1.2.2.2)] : (List Group))) * 40 ≤ 140737488355328) then
        let y19 : (List Group) := (l ++ ([(m1.2.2.1, m1.2.1, m1.2.2.2)] : (List Group)))
        obind (ref24_there n y19 m1.2.2.2) fun (r240 : Bool) =>
        bif !r240 then
          some (([] : (List Group)), (true, 2, 9))
        else
        obind (ref24_Loop n y19) fun (r241 : Bool) =>
        bif r241 then
          obind (some (ref24_bad 7)) fun (r242 : Fault) =>
          some (([] : (List Group)), r242)
        else
        some (y19, (false, 0, 0))
        else none
        else none
      else
      bif ((m1.1 == 1) == true) then
        bif decide (r224 < 0) then
          obind (some (ref24_bad 8)) fun (r243 : Fault) =>
          some (([] : (List Group)), r243)
        else
        obind (ref24_Check n m1.2.1 m1.2.2.2) fun (r244 : Fault) =>
        bif r244.1 then
          some (([] : (List Group)), r244)
        else
        bif decide ((List.length ([] : (List Group)) + List.length l) * 40 ≤ 140737488355328) then
        bif decide (r224 ≥ 0) then
          bif inRange r224 (List.length l) then
          let y20 : (List Group) := List.set l (Int.toNat r224) (m1.2.2.1, m1.2.1, m1.2.2.2)
          obind (ref24_there n y20 m1.2.2.2) fun (r245 : Bool) =>
          bif !r245 then
            some (([] : (List Group)), (true, 2, 9))
          else
          obind (ref24_Loop n y20) fun (r246 : Bool) =>
          bif r246 then
            obind (some (ref24_bad 7)) fun (r247 : Fault) =>
            some (([] : (List Group)), r247)
          else
          some (y20, (false, 0, 0))
          else none
        else
        bif decide ((List.length l + List.length ([(m1.2.2.1, m1.2.1, m1.2.2.2)] : (List Group))) * 40 ≤ 140737488355328) then
        let y21 : (List Group) := (l ++ ([(m1.2.2.1, m1.2.1, m1.2.2.2)] : (List Group)))
        obind (ref24_there n y21 m1.2.2.2) fun (r248 : Bool) =>
        bif !r248 then
          some (([] : (List Group)), (true, 2, 9))
        else
        obind (ref24_Loop n y21) fun (r249 : Bool) =>
        bif r249 then
          obind (some (ref24_bad 7)) fun (r250 : Fault) =>
          some (([] : (List Group)), r250)
        else
        some (y21, (false, 0, 0))
        else none
        else none
      else
      obind (ref24_Check n m1.2.1 m1.2.2.2) fun (r251 : Fault) =>
      bif r251.1 then
        some (([] : (List Group)), r251)
      else
      bif decide ((List.length ([] : (List Group)) + List.length l) * 40 ≤ 140737488355328) then
      bif decide (r224 ≥ 0) then
        bif inRange r224 (List.length l) then
        let y22 : (List Group) := List.set l (Int.toNat r224) (m1.2.2.1, m1.2.1, m1.2.2.2)
        obind (ref24_there n y22 m1.2.2.2) fun (r252 : Bool) =>
        bif !r252 then
          some (([] : (List Group)), (true, 2, 9))
        else
        obind (ref24_Loop n y22) fun (r253 : Bool) =>
        bif r253 then
          obind (some (ref24_bad 7)) fun (r254 : Fault) =>
          some (([] : (List Group)), r254)
        else
        some (y22, (false, 0, 0))
        else none
      else
      bif decide ((List.length l + List.length ([(m1.2.2.1, m1.2.1, m1.2.2.2)] : (List Group))) * 40 ≤ 140737488355328) then
      let y23 : (List Group) := (l ++ ([(m1.2.2.1, m1.2.1, m1.2.2.2)] : (List Group)))
      obind (ref24_there n y23 m1.2.2.2) fun (r255 : Bool) =>
      bif !r255 then
        some (([] : (List Group)), (true, 2, 9))
      else
      obind (ref24_Loop n y23) fun (r256 : Bool) =>
      bif r256 then
        obind (some (ref24_bad 7)) fun (r257 : Fault) =>
        some (([] : (List Group)), r257)
      else
      some (y23, (false, 0, 0))
      else none
      else none
    else
    bif ((m1.1 == 0) == true) then
      bif decide (((List.length l : Nat) : Int) ≥ 8) then
        obind (some (ref24_bad 3)) fun (r258 : Fault) =>
        some (([] : (List Group)), r258)
      else
      bif ((m1.1 == 1) == true) then
        bif decide (r224 < 0) then
          obind (some (ref24_bad 8)) fun (r259 : Fault) =>
          some (([] : (List Group)), r259)
        else
        obind (ref24_Check n m1.2.1 m1.2.2.2) fun (r260 : Fault) =>
        bif r260.1 then
          some (([] : (List Group)), r260)
        else
        bif decide ((List.length ([] : (List Group)) + List.length l) * 40 ≤ 140737488355328) then
        bif decide (r224 ≥ 0) then
          bif inRange r224 (List.length l) then
          let y24 : (List Group) := List.set l (Int.toNat r224) (m1.2.2.1, m1.2.1, m1.2.2.2)
          obind (ref24_there n y24 m1.2.2.2) fun (r261 : Bool) =>
          bif !r261 then
            some (([] : (List Group)), (true, 2, 9))
          else
          obind (ref24_Loop n y24) fun (r262 : Bool) =>
          bif r262 then
            obind (some (ref24_bad 7)) fun (r263 : Fault) =>
            some (([] : (List Group)), r263)
          else
          some (y24, (false, 0, 0))
          else none
        else
        bif decide ((List.length l + List.length ([(m1.2.2.1, m1.2.1, m1.2.2.2)] : (List Group))) * 40 ≤ 140737488355328) then
        let y25 : (List Group) := (l ++ ([(m1.2.2.1, m1.2.1, m1.2.2.2)] : (List Group)))
        obind (ref24_there n y25 m1.2.2.2) fun (r264 : Bool) =>
        bif !r264 then
          some (([] : (List Group)), (true, 2, 9))
        else
        obind (ref24_Loop n y25) fun (r265 : Bool) =>
        bif r265 then
          obind (some (ref24_bad 7)) fun (r266 : Fault) =>
          some (([] : (List Group)), r266)
        else
        some (y25, (false, 0, 0))
        else none
        else none
      else
      obind (ref24_Check n m1.2.1 m1.2.2.2) fun (r267 : Fault) =>
      bif r267.1 then
        some (([] : (List Group)), r267)
      else
      bif decide ((List.length ([] : (List Group)) + List.length l) * 40 ≤ 140737488355328) then
      bif decide (r224 ≥ 0) then
        bif inRange r224 (List.length l) then
        let y26 : (List Group) := List.set l (Int.toNat r224) (m1.2.2.1, m1.2.1, m1.2.2.2)
        obind (ref24_there n y26 m1.2.2.2) fun (r268 : Bool) =>
        bif !r268 then
          some (([] : (List Group)), (true, 2, 9))
        else
        obind (ref24_Loop n y26) fun (r269 : Bool) =>
        bif r269 then
          obind (some (ref24_bad 7)) fun (r270 : Fault) =>
          some (([] : (List Group)), r270)
        else
        some (y26, (false, 0, 0))
        else none
      else
      bif decide ((List.length l + List.length ([(m1.2.2.1, m1.2.1, m1.2.2.2)] : (List Group))) * 40 ≤ 140737488355328) then
      let y27 : (List Group) := (l ++ ([(m1.2.2.1, m1.2.1, m1.2.2.2)] : (List Group)))
      obind (ref24_there n y27 m1.2.2.2) fun (r271 : Bool) =>
      bif !r271 then
        some (([] : (List Group)), (true, 2, 9))
      else
      obind (ref24_Loop n y27) fun (r272 : Bool) =>
      bif r272 then
        obind (some (ref24_bad 7)) fun (r273 : Fault) =>
        some (([] : (List Group)), r273)
      else
      some (y27, (false, 0, 0))
      else none
      else none
    else
    bif ((m1.1 == 1) == true) then
      bif decide (r224 < 0) then
        obind (some (ref24_bad 8)) fun (r274 : Fault) =>
        some (([] : (List Group)), r274)
      else
      obind (ref24_Check n m1.2.1 m1.2.2.2) fun (r275 : Fault) =>
      bif r275.1 then
        some (([] : (List Group)), r275)
      else
      bif decide ((List.length ([] : (List Group)) + List.length l) * 40 ≤ 140737488355328) then
      bif decide (r224 ≥ 0) then
        bif inRange r224 (List.length l) then
        let y28 : (List Group) := List.set l (Int.toNat r224) (m1.2.2.1, m1.2.1, m1.2.2.2)
        obind (ref24_there n y28 m1.2.2.2) fun (r276 : Bool) =>
        bif !r276 then
          some (([] : (List Group)), (true, 2, 9))
        else
        obind (ref24_Loop n y28) fun (r277 : Bool) =>
        bif r277 then
          obind (some (ref24_bad 7)) fun (r278 : Fault) =>
          some (([] : (List Group)), r278)
        else
        some (y28, (false, 0, 0))
        else none
      else
      bif decide ((List.length l + List.length ([(m1.2.2.1, m1.2.1, m1.2.2.2)] : (List Group))) * 40 ≤ 140737488355328) then
      let y29 : (List Group) := (l ++ ([(m1.2.2.1, m1.2.1, m1.2.2.2)] : (List Group)))
      obind (ref24_there n y29 m1.2.2.2) fun (r279 : Bool) =>
      bif !r279 then
        some (([] : (List Group)), (true, 2, 9))
      else
      obind (ref24_Loop n y29) fun (r280 : Bool) =>
      bif r280 then
        obind (some (ref24_bad 7)) fun (r281 : Fault) =>
        some (([] : (List Group)), r281)
      else
      some (y29, (false, 0, 0))
      else none
      else none
    else
    obind (ref24_Check n m1.2.1 m1.2.2.2) fun (r282 : Fault) =>
    bif r282.1 then
      some (([] : (List Group)), r282)
    else
    bif decide ((List.length ([] : (List Group)) + List.length l) * 40 ≤ 140737488355328) then
    bif decide (r224 ≥ 0) then
      bif inRange r224 (List.length l) then
      let y30 : (List Group) := List.set l (Int.toNat r224) (m1.2.2.1, m1.2.1, m1.2.2.2)
      obind (ref24_there n y30 m1.2.2.2) fun (r283 : Bool) =>
      bif !r283 then
        some (([] : (List Group)), (true, 2, 9))
      else
      obind (ref24_Loop n y30) fun (r284 : Bool) =>
      bif r284 then
        obind (some (ref24_bad 7)) fun (r285 : Fault) =>
        some (([] : (List Group)), r285)
      else
      some (y30, (false, 0, 0))
      else none
    else
    bif decide ((List.length l + List.length ([(m1.2.2.1, m1.2.1, m1.2.2.2)] : (List Group))) * 40 ≤ 140737488355328) then
    let y31 : (List Group) := (l ++ ([(m1.2.2.1, m1.2.1, m1.2.2.2)] : (List Group)))
    obind (ref24_there n y31 m1.2.2.2) fun (r286 : Bool) =>
    bif !r286 then
      some (([] : (List Group)), (true, 2, 9))
    else
    obind (ref24_Loop n y31) fun (r287 : Bool) =>
    bif r287 then
      obind (some (ref24_bad 7)) fun (r288 : Fault) =>
      some (([] : (List Group)), r288)
    else
    some (y31, (false, 0, 0))
    else none
    else none
  else
  obind (some (ref24_bad 1)) fun (r289 : Fault) =>
  some (([] : (List Group)), r289)

def ref10_Same (a : Oxm) (b : Oxm) : Bool :=
  bif ((a.1 == b.1) == true) then
    bif ((a.2.1 == b.2.1) == true) then
      bif ((beqT TWide a.2.2.1 b.2.2.1) == true) then
        beqT TWide a.2.2.2 b.2.2.2
      else
      false
    else
    false
  else
  false
def ref10_Same.o (a : Oxm) (b : Oxm) : Option Bool :=
  bif ((a.1 == b.1) == true) then
    bif ((a.2.1 == b.2.1) == true) then
      bif ((beqT TWide a.2.2.1 b.2.2.1) == true) then
        some (beqT TWide a.2.2.2 b.2.2.2)
      else
      some false
    else
    some false
  else
  some false
theorem ref10_Same.o_eq (a : Oxm) (b : Oxm) : ref10_Same.o a b = some (ref10_Same a b) := by simp only [ref10_Same.o, ref10_Same, cond_some, obind_some]

def ref12_Same (a : Action) (b : Action) : Bool :=
  bif ((a.1 == b.1) == true) then
    bif ((a.2.1 == b.2.1) == true) then
      bif ((a.2.2.1 == b.2.2.1) == true) then
        bif ((a.2.2.2.1 == b.2.2.2.1) == true) then
          bif ((a.2.2.2.2.1 == b.2.2.2.2.1) == true) then
            let r291 : Bool := ref10_Same a.2.2.2.2.2 b.2.2.2.2.2
            r291
          else
          false
        else
        false
      else
      false
    else
    false
  else
  false
def ref12_Same.o (a : Action) (b : Action) : Option Bool :=
  bif ((a.1 == b.1) == true) then
    bif ((a.2.1 == b.2.1) == true) then
      bif ((a.2.2.1 == b.2.2.1) == true) then
        bif ((a.2.2.2.1 == b.2.2.2.1) == true) then
          bif ((a.2.2.2.2.1 == b.2.2.2.2.1) == true) then
            obind (some (ref10_Same a.2.2.2.2.2 b.2.2.2.2.2)) fun (r291 : Bool) =>
            some r291
          else
          some false
        else
        some false
      else
      some false
    else
    some false
  else
  some false
theorem ref12_Same.o_eq (a : Action) (b : Action) : ref12_Same.o a b = some (ref12_Same a b) := by simp only [ref12_Same.o, ref12_Same, cond_some, obind_some]

def ref13_Same.s0 (n : Nat) (k0 : (Int → Option Bool)) (a_1 : (List Action)) (b_1 : (List Action)) (i : Int) : Option Bool :=
  bif decide (i < ((List.length a_1 : Nat) : Int)) then
    bif inRange i (List.length a_1) then
    bif inRange i (List.length b_1) then
    obind (some (ref12_Same (List.getD a_1 (Int.toNat i) (0, 0, 0, 0, 0, 0, false, (0, 0), 0, 0)) (List.getD b_1 (Int.toNat i) (0, 0, 0, 0, 0, 0, false, (0, 0), 0, 0)))) fun (r292 : Bool) =>
    bif !r292 then
      some false
    else
    k0 (IntKind.wrap .i64 (i + 1))
    else none
    else none
  else
  some true

def ref13_Same.l0 (n : Nat) (a_1 : (List Action)) (b_1 : (List Action)) : Nat → Int → Option Bool
  | 0, _ => none
  | m + 1, i => ref13_Same.s0 n (fun i' => ref13_Same.l0 n a_1 b_1 m i') a_1 b_1 i

def ref13_Same.s (n : Nat) (k0 : ((List Action) → (List Action) → Int → Option Bool)) (a : (List Action)) (b : (List Action)) : Option Bool :=
  bif (((List.length a : Nat) : Int) != ((List.length b : Nat) : Int)) then
    some false
  else
  k0 a b 0

def ref13_Same (n : Nat) (a : (List Action)) (b : (List Action)) : Option Bool := ref13_Same.s n (fun a_1 b_1 i => ref13_Same.l0 n a_1 b_1 n i) a b

def ref15_Same.s0 (n : Nat) (k0 : (Int → Option Bool)) (a_1 : (List Bucket)) (b_1 : (List Bucket)) (i : Int) : Option Bool :=
  bif decide (i < ((List.length a_1 : Nat) : Int)) then
    bif inRange i (List.length a_1) then
    bif inRange i (List.length b_1) then
    bif (((List.getD a_1 (Int.toNat i) (0, 0, 0, ([] : (List Action)))).1 != (List.getD b_1 (Int.toNat i) (0, 0, 0, ([] : (List Action)))).1) == false) then
      bif inRange i (List.length a_1) then
      bif inRange i (List.length b_1) then
      bif (((List.getD a_1 (Int.toNat i) (0, 0, 0, ([] : (List Action)))).2.1 != (List.getD b_1 (Int.toNat i) (0, 0, 0, ([] : (List Action)))).2.1) == false) then
        bif inRange i (List.length a_1) then
        bif inRange i (List.length b_1) then
        bif (((List.getD a_1 (Int.toNat i) (0, 0, 0, ([] : (List Action)))).2.2.1 != (List.getD b_1 (Int.toNat i) (0, 0, 0, ([] : (List Action)))).2.2.1) == false) then
          bif inRange i (List.length a_1) then
          bif inRange i (List.length b_1) then
          obind (ref13_Same n (List.getD a_1 (Int.toNat i) (0, 0, 0, ([] : (List Action)))).2.2.2 (List.getD b_1 (Int.toNat i) (0, 0, 0, ([] : (List Action)))).2.2.2) fun (r293 : Bool) =>
          bif !r293 then
            some false
          else
          k0 (IntKind.wrap .i64 (i + 1))
          else none
          else none
        else
        some false
        else none
        else none
      else
      some false
      else none
      else none
    else
    some false
    else none
    else none
  else
  some true

def ref15_Same.l0 (n : Nat) (a_1 : (List Bucket)) (b_1 : (List Bucket)) : Nat → Int → Option Bool
  | 0, _ => none
  | m + 1, i => ref15_Same.s0 n (fun i' => ref15_Same.l0 n a_1 b_1 m i') a_1 b_1 i

def ref15_Same.s (n : Nat) (k0 : ((List Bucket) → (List Bucket) → Int → Option Bool)) (a : (List Bucket)) (b : (List Bucket)) : Option Bool :=
  bif (((List.length a : Nat) : Int) != ((List.length b : Nat) : Int)) then
    some false
  else
  k0 a b 0

def ref15_Same (n : Nat) (a : (List Bucket)) (b : (List Bucket)) : Option Bool := ref15_Same.s n (fun a_1 b_1 i => ref15_Same.l0 n a_1 b_1 n i) a b

def ref24_Same.s0 (n : Nat) (k0 : (Int → Option Bool)) (a_1 : (List Group)) (b_1 : (List Group)) (i : Int) : Option Bool :=
  bif decide (i < ((List.length a_1 : Nat) : Int)) then
    bif inRange i (List.length a_1) then
    bif inRange i (List.length b_1) then
    bif (((List.getD a_1 (Int.toNat i) (0, 0, ([] : (List Bucket)))).1 != (List.getD b_1 (Int.toNat i) (0, 0, ([] : (List Bucket)))).1) == false) then
      bif inRange i (List.length a_1) then
      bif inRange i (List.length b_1) then
      bif (((List.getD a_1 (Int.toNat i) (0, 0, ([] : (List Bucket)))).2.1 != (List.getD b_1 (Int.toNat i) (0, 0, ([] : (List Bucket)))).2.1) == false) then
        bif inRange i (List.length a_1) then
        bif inRange i (List.length b_1) then
        obind (ref15_Same n (List.getD a_1 (Int.toNat i) (0, 0, ([] : (List Bucket)))).2.2 (List.getD b_1 (Int.toNat i) (0, 0, ([] : (List Bucket)))).2.2) fun (r294 : Bool) =>
        bif !r294 then
          some false
        else
        k0 (IntKind.wrap .i64 (i + 1))
        else none
        else none
      else
      some false
      else none
      else none
    else
    some false
    else none
    else none
  else
  some true

def ref24_Same.l0 (n : Nat) (a_1 : (List Group)) (b_1 : (List Group)) : Nat → Int → Option Bool
  | 0, _ => none
  | m + 1, i => ref24_Same.s0 n (fun i' => ref24_Same.l0 n a_1 b_1 m i') a_1 b_1 i

def ref24_Same.s (n : Nat) (k0 : ((List Group) → (List Group) → Int → Option Bool)) (a : (List Group)) (b : (List Group)) : Option Bool :=
  bif (((List.length a : Nat) : Int) != ((List.length b : Nat) : Int)) then
    some false
  else
  k0 a b 0

def ref24_Same (n : Nat) (a : (List Group)) (b : (List Group)) : Option Bool := ref24_Same.s n (fun a_1 b_1 i => ref24_Same.l0 n a_1 b_1 n i) a b

def ref24_Right.s0 (n : Nat) (k0 : (Int → Option Bool)) (l_1 : (List Group)) (i : Int) : Option Bool :=
  bif decide (i < ((List.length l_1 : Nat) : Int)) then
    bif inRange i (List.length l_1) then
    bif ((decide ((List.getD l_1 (Int.toNat i) (0, 0, ([] : (List Bucket)))).1 < 0)) == false) then
      bif inRange i (List.length l_1) then
      bif ((decide ((List.getD l_1 (Int.toNat i) (0, 0, ([] : (List Bucket)))).1 > 4294967040)) == false) then
        bif inRange i (List.length l_1) then
        obind (ref24_place n l_1 (List.getD l_1 (Int.toNat i) (0, 0, ([] : (List Bucket)))).1) fun (r297 : Int) =>
        bif ((r297 != i) == false) then
          bif inRange i (List.length l_1) then
          bif inRange i (List.length l_1) then
          obind (ref24_Check n (List.getD l_1 (Int.toNat i) (0, 0, ([] : (List Bucket)))).2.1 (List.getD l_1 (Int.toNat i) (0, 0, ([] : (List Bucket)))).2.2) fun (r298 : Fault) =>
          bif (r298.1 == false) then
            bif inRange i (List.length l_1) then
            obind (ref24_there n l_1 (List.getD l_1 (Int.toNat i) (0, 0, ([] : (List Bucket)))).2.2) fun (r299 : Bool) =>
            bif !r299 then
              some false
            else
            k0 (IntKind.wrap .i64 (i + 1))
            else none
          else
          some false
          else none
          else none
        else
        some false
        else none
      else
      some false
      else none
    else
    some false
    else none
  else
  bif ((decide (((List.length l_1 : Nat) : Int) ≤ 8)) == true) then
    obind (ref24_Loop n l_1) fun (r300 : Bool) =>
    some (!r300)
  else
  some false

def ref24_Right.l0 (n : Nat) (l_1 : (List Group)) : Nat → Int → Option Bool
  | 0, _ => none
  | m + 1, i => ref24_Right.s0 n (fun i' => ref24_Right.l0 n l_1 m i') l_1 i

def ref24_Right.s (n : Nat) (k0 : ((List Group) → Int → Option Bool)) (l : (List Group)) : Option Bool :=
  k0 l 0

def ref24_Right (n : Nat) (l : (List Group)) : Option Bool := ref24_Right.s n (fun l_1 i => ref24_Right.l0 n l_1 n i) l

def law24_GroupDoes.s0 (n : Nat) (k0 : ((List Group) → Int → Option Bool)) (l_1 : (List Group)) (v24 : (List GroupMod)) (v25 : Int) (v26 : Int) : Option Bool :=
  bif decide (v26 < v25) then
    bif inRange v26 (List.length v24) then
    let y0 : GroupMod := List.getD v24 (Int.toNat v26) (0, 0, 0, ([] : (List Bucket)))
    obind (group_Do n l_1 y0) fun (r118 : ((List Group) × Fault)) =>
    obind (ref24_Do n l_1 y0) fun (r290 : ((List Group) × Fault)) =>
    bif ((!(beqT TFault r118.2 r290.2)) == false) then
      obind (ref24_Same n r118.1 r290.1) fun (r295 : Bool) =>
      bif ((!r295) == false) then
        obind (group_Right n r118.1) fun (r296 : Bool) =>
        obind (ref24_Right n r290.1) fun (r301 : Bool) =>
        bif !(r296 == r301) then
          some false
        else
        bif !r118.2.1 then
          k0 r290.1 (IntKind.wrap .i64 (v26 + 1))
        else
        k0 l_1 (IntKind.wrap .i64 (v26 + 1))
      else
      some false
    else
    some false
    else none
  else
  obind (law24_awake n) fun (r302 : Bool) =>
  some r302

def law24_GroupDoes.l0 (n : Nat) (v24 : (List GroupMod)) (v25 : Int) : Nat → (List Group) → Int → Option Bool
  | 0, _, _ => none
  | m + 1, l_1, v26 => law24_GroupDoes.s0 n (fun l_1' v26' => law24_GroupDoes.l0 n v24 v25 m l_1' v26') l_1 v24 v25 v26

def law24_GroupDoes.s (n : Nat) (k0 : ((List Group) → (List GroupMod) → Int → Int → Option Bool)) (l : (List Group)) (mods : (List GroupMod)) : Option Bool :=
  obind (plain_Groups n l 10 6) fun (r11 : Bool) =>
  bif ((!r11) == false) then
    bif ((decide (((List.length mods : Nat) : Int) > 20)) == false) then
      obind (slices_ContainsFunc_GroupMod n mods (fun (x15 : GroupMod) => law24_long_c n x15)) fun (r16 : Bool) =>
      bif r16 then
        obind (law24_awake n) fun (r117 : Bool) =>
        some r117
      else
      k0 l mods ((List.length mods : Nat) : Int) 0
    else
    obind (law24_awake n) fun (r303 : Bool) =>
    some r303
  else
  obind (law24_awake n) fun (r304 : Bool) =>
  some r304

def law24_GroupDoes (n : Nat) (l : (List Group)) (mods : (List GroupMod)) : Option Bool := law24_GroupDoes.s n (fun l_1 v24 v25 v26 => law24_GroupDoes.l0 n v24 v25 n l_1 v26) l mods

def law24_GroupDoes.τs : List Ty := [(.slc TGroup), (.slc TGroupMod)]

def law24_GroupStays.s0 (n : Nat) (k0 : ((List Group) → Int → Option Bool)) (l : (List Group)) (v16 : (List GroupMod)) (v17 : Int) (v18 : Int) : Option Bool :=
  bif decide (v18 < v17) then
    bif inRange v18 (List.length v16) then
    obind (group_Do n l (List.getD v16 (Int.toNat v18) (0, 0, 0, ([] : (List Bucket))))) fun (r308 : ((List Group) × Fault)) =>
    bif r308.2.1 then
      bif decide (((List.length r308.1 : Nat) : Int) > 0) then
        some false
      else
      k0 l (IntKind.wrap .i64 (v18 + 1))
    else
    obind (group_Right n r308.1) fun (r309 : Bool) =>
    bif ((!r309) == false) then
      bif decide (((List.length r308.1 : Nat) : Int) > 8) then
        some false
      else
      k0 r308.1 (IntKind.wrap .i64 (v18 + 1))
    else
    some false
    else none
  else
  obind (law24_awake n) fun (r310 : Bool) =>
  some r310

def law24_GroupStays.l0 (n : Nat) (v16 : (List GroupMod)) (v17 : Int) : Nat → (List Group) → Int → Option Bool
  | 0, _, _ => none
  | m + 1, l, v18 => law24_GroupStays.s0 n (fun l' v18' => law24_GroupStays.l0 n v16 v17 m l' v18') l v16 v17 v18

def law24_GroupStays.s (n : Nat) (k0 : ((List Group) → (List GroupMod) → Int → Int → Option Bool)) (mods : (List GroupMod)) : Option Bool :=
  bif ((decide (((List.length mods : Nat) : Int) > 20)) == false) then
    obind (slices_ContainsFunc_GroupMod n mods (fun (x305 : GroupMod) => law24_long_c n x305)) fun (r306 : Bool) =>
    bif r306 then
      obind (law24_awake n) fun (r307 : Bool) =>
      some r307
    else
    k0 ([] : (List Group)) mods ((List.length mods : Nat) : Int) 0
  else
  obind (law24_awake n) fun (r311 : Bool) =>
  some r311

def law24_GroupStays (n : Nat) (mods : (List GroupMod)) : Option Bool := law24_GroupStays.s n (fun l v16 v17 v18 => law24_GroupStays.l0 n v16 v17 n l v18) mods

def law24_GroupStays.τs : List Ty := [(.slc TGroupMod)]

def law24_GroupEnds.s0 (n : Nat) (k0 : (Int → Group → Option Bool)) (l_1 : (List Group)) (v35 : (List Int)) (v36 : Int) (v37 : Int) (g : Group) : Option Bool :=
  bif decide (v37 < v36) then
    bif inRange v37 (List.length v35) then
    obind (group_Names n g.2.2) fun (r315 : (List Int)) =>
    bif (((List.length r315 : Nat) : Int) == 0) then
      obind (law24_awake n) fun (r316 : Bool) =>
      some r316
    else
    bif !(((List.length r315 : Nat) : Int) == 0) then
    let y0 : Int := List.getD v35 (Int.toNat v37) 0
    let y1 : Int := IntKind.wrap .i64 y0
    let y2 : Int := Int.tmod y1 ((List.length r315 : Nat) : Int)
    bif inRange y2 (List.length r315) then
    obind (group_Find n l_1 (List.getD r315 (Int.toNat y2) 0)) fun (r317 : (Group × Bool)) =>
    bif ((!r317.2) == false) then
      bif decide ((IntKind.wrap .i64 (v37 + 1)) ≥ ((List.length l_1 : Nat) : Int)) then
        some false
      else
      k0 (IntKind.wrap .i64 (v37 + 1)) r317.1
    else
    some false
    else none
    else none
    else none
  else
  obind (law24_awake n) fun (r318 : Bool) =>
  some r318

def law24_GroupEnds.l0 (n : Nat) (l_1 : (List Group)) (v35 : (List Int)) (v36 : Int) : Nat → Int → Group → Option Bool
  | 0, _, _ => none
  | m + 1, v37, g => law24_GroupEnds.s0 n (fun v37' g' => law24_GroupEnds.l0 n l_1 v35 v36 m v37' g') l_1 v35 v36 v37 g

def law24_GroupEnds.s (n : Nat) (k0 : ((List Group) → (List Int) → Int → Int → Group → Option Bool)) (l : (List Group)) (from1 : Int) (choices : (List Int)) : Option Bool :=
  obind (plain_Groups n l 10 6) fun (r312 : Bool) =>
  bif ((!r312) == false) then
    obind (group_Right n l) fun (r313 : Bool) =>
    bif ((!r313) == false) then
      bif (((List.length l : Nat) : Int) == 0) then
        obind (law24_awake n) fun (r314 : Bool) =>
        some r314
      else
      bif !(((List.length l : Nat) : Int) == 0) then
      let y0 : Int := Int.tmod (IntKind.wrap .i64 from1) ((List.length l : Nat) : Int)
      bif inRange y0 (List.length l) then
      k0 l choices ((List.length choices : Nat) : Int) 0 (List.getD l (Int.toNat y0) (0, 0, ([] : (List Bucket))))
      else none
      else none
    else
    obind (law24_awake n) fun (r319 : Bool) =>
    some r319
  else
  obind (law24_awake n) fun (r320 : Bool) =>
  some r320

def law24_GroupEnds (n : Nat) (l : (List Group)) (from1 : Int) (choices : (List Int)) : Option Bool := law24_GroupEnds.s n (fun l_1 v35 v36 v37 g => law24_GroupEnds.l0 n l_1 v35 v36 n v37 g) l from1 choices

def law24_GroupEnds.τs : List Ty := [(.slc TGroup), (.int .u8), (.slc (.int .u8))]

def law24_GroupGone_1 (n : Nat) (g : Group) (c0 : Int) : Option Bool :=
  obind (group_Names n g.2.2) fun (r324 : (List Int)) =>
  obind (slices_Contains_int n r324 c0) fun (r325 : Bool) =>
  some r325

def law24_GroupGone_2 (g : Group) (c0 : Int) : Bool :=
  bif ((g.1 == c0) == false) then
    (c0 == 4294967292)
  else
  true
def law24_GroupGone_2.o (g : Group) (c0 : Int) : Option Bool :=
  bif ((g.1 == c0) == false) then
    some (c0 == 4294967292)
  else
  some true
theorem law24_GroupGone_2.o_eq (g : Group) (c0 : Int) : law24_GroupGone_2.o g c0 = some (law24_GroupGone_2 g c0) := by simp only [law24_GroupGone_2.o, law24_GroupGone_2, cond_some, obind_some]

def law24_GroupGone (n : Nat) (l : (List Group)) (id1 : Int) : Option Bool :=
  obind (plain_Groups n l 10 6) fun (r321 : Bool) =>
  bif ((!r321) == false) then
    obind (group_Right n l) fun (r322 : Bool) =>
    bif !r322 then
      obind (law24_awake n) fun (r323 : Bool) =>
      some r323
    else
    obind (slices_ContainsFunc_Group n l (fun (x326 : Group) => law24_GroupGone_1 n x326 id1)) fun (r327 : Bool) =>
    obind (group_Do n l (2, 0, id1, ([] : (List Bucket)))) fun (r328 : ((List Group) × Fault)) =>
    bif r328.2.1 then
      bif (r327 == false) then
        bif ((decide (id1 < 0)) == false) then
          bif ((decide (id1 > 4294967040)) == true) then
            obind (law24_awake n) fun (r329 : Bool) =>
            some r329
          else
          some false
        else
        obind (law24_awake n) fun (r330 : Bool) =>
        some r330
      else
      obind (law24_awake n) fun (r331 : Bool) =>
      some r331
    else
    obind (group_Find n r328.1 id1) fun (r332 : (Group × Bool)) =>
    obind (slices_Clone_Group l) fun (r333 : (List Group)) =>
    obind (slices_DeleteFunc_Group n r333 (fun (x334 : Group) => some (law24_GroupGone_2 x334 id1))) fun (r335 : (List Group)) =>
    bif ((!r332.2) == true) then
      bif ((!r327) == true) then
        obind (group_Same n r328.1 r335) fun (r336 : Bool) =>
        bif (r336 == true) then
          obind (law24_awake n) fun (r337 : Bool) =>
          some r337
        else
        some false
      else
      some false
    else
    some false
  else
  obind (law24_awake n) fun (r338 : Bool) =>
  some r338

def law24_GroupGone.τs : List Ty := [(.slc TGroup), (.int .i64)]

def ref24_Find (n : Nat) (l : (List Group)) (id1 : Int) : Option (Group × Bool) :=
  obind (ref24_place n l id1) fun (r343 : Int) =>
  bif decide (r343 ≥ 0) then
    bif inRange r343 (List.length l) then
    some (List.getD l (Int.toNat r343) (0, 0, ([] : (List Bucket))), true)
    else none
  else
  some ((0, 0, ([] : (List Bucket))), false)

def law24_one (g : Group) : (List Group) :=
  ([g] : (List Group))

def law24_one.τs : List Ty := [TGroup]

def slices_Equal_int.s0 (n : Nat) (k0 : (Int → Option Bool)) (s1_1 : (List Int)) (s2_1 : (List Int)) (v12 : Int) (v13 : Int) : Option Bool :=
  bif decide (v13 < v12) then
    bif inRange v13 (List.length s1_1) then
    bif inRange v13 (List.length s2_1) then
    bif ((List.getD s1_1 (Int.toNat v13) 0) != (List.getD s2_1 (Int.toNat v13) 0)) then
      some false
    else
    k0 (IntKind.wrap .i64 (v13 + 1))
    else none
    else none
  else
  some true

def slices_Equal_int.l0 (n : Nat) (s1_1 : (List Int)) (s2_1 : (List Int)) (v12 : Int) : Nat → Int → Option Bool
  | 0, _ => none
  | m + 1, v13 => slices_Equal_int.s0 n (fun v13' => slices_Equal_int.l0 n s1_1 s2_1 v12 m v13') s1_1 s2_1 v12 v13

def slices_Equal_int.s (n : Nat) (k0 : ((List Int) → (List Int) → Int → Int → Option Bool)) (s1 : (List Int)) (s2 : (List Int)) : Option Bool :=
  bif (((List.length s1 : Nat) : Int) != ((List.length s2 : Nat) : Int)) then
    some false
  else
  k0 s1 s2 ((List.length s1 : Nat) : Int) 0

def slices_Equal_int (n : Nat) (s1 : (List Int)) (s2 : (List Int)) : Option Bool := slices_Equal_int.s n (fun s1_1 s2_1 v12 v13 => slices_Equal_int.l0 n s1_1 s2_1 v12 n v13) s1 s2

def law24_GroupTells.s0 (n : Nat) (k0 : (Int → Option Bool)) (kind_1 : Int) (v70 : (List Group)) (v71 : Int) (v72 : Int) : Option Bool :=
  bif decide (v72 < v71) then
    bif inRange v72 (List.length v70) then
    let y0 : Group := List.getD v70 (Int.toNat v72) (0, 0, ([] : (List Bucket)))
    obind (group_Names n y0.2.2) fun (r354 : (List Int)) =>
    obind (ref24_Names n y0.2.2) fun (r355 : (List Int)) =>
    obind (slices_Equal_int n r354 r355) fun (r356 : Bool) =>
    bif ((!r356) == false) then
      obind (group_Check n kind_1 y0.2.2) fun (r357 : Fault) =>
      obind (ref24_Check n kind_1 y0.2.2) fun (r358 : Fault) =>
      bif !(beqT TFault r357 r358) then
        some false
      else
      k0 (IntKind.wrap .i64 (v72 + 1))
    else
    some false
    else none
  else
  obind (law24_awake n) fun (r359 : Bool) =>
  some r359

def law24_GroupTells.l0 (n : Nat) (kind_1 : Int) (v70 : (List Group)) (v71 : Int) : Nat → Int → Option Bool
  | 0, _ => none
  | m + 1, v72 => law24_GroupTells.s0 n (fun v72' => law24_GroupTells.l0 n kind_1 v70 v71 m v72') kind_1 v70 v71 v72

def law24_GroupTells.s (n : Nat) (k0 : (Int → (List Group) → Int → Int → Option Bool)) (l : (List Group)) (k1 : (List Group)) (id2 : Int) (kind : Int) : Option Bool :=
  obind (plain_Groups n l 10 6) fun (r339 : Bool) =>
  bif ((!r339) == false) then
    obind (plain_Groups n k1 10 6) fun (r340 : Bool) =>
    bif !r340 then
      obind (law24_awake n) fun (r341 : Bool) =>
      some r341
    else
    obind (group_Find n l id2) fun (r342 : (Group × Bool)) =>
    obind (ref24_Find n l id2) fun (r344 : (Group × Bool)) =>
    bif ((!(r342.2 == r344.2)) == false) then
      obind (some (law24_one r342.1)) fun (r345 : (List Group)) =>
      obind (some (law24_one r344.1)) fun (r346 : (List Group)) =>
      obind (ref24_Same n r345 r346) fun (r347 : Bool) =>
      bif ((!r347) == false) then
        obind (group_Loop n l) fun (r348 : Bool) =>
        obind (ref24_Loop n l) fun (r349 : Bool) =>
        bif ((!(r348 == r349)) == false) then
          obind (group_Right n l) fun (r350 : Bool) =>
          obind (ref24_Right n l) fun (r351 : Bool) =>
          bif ((!(r350 == r351)) == false) then
            obind (group_Same n l k1) fun (r352 : Bool) =>
            obind (ref24_Same n l k1) fun (r353 : Bool) =>
            bif !(r352 == r353) then
              some false
            else
            k0 kind l ((List.length l : Nat) : Int) 0
          else
          some false
        else
        some false
      else
      some false
    else
    some false
  else
  obind (law24_awake n) fun (r360 : Bool) =>
  some r360

def law24_GroupTells (n : Nat) (l : (List Group)) (k1 : (List Group)) (id2 : Int) (kind : Int) : Option Bool := law24_GroupTells.s n (fun kind_1 v70 v71 v72 => law24_GroupTells.l0 n kind_1 v70 v71 n v72) l k1 id2 kind

def law24_GroupTells.τs : List Ty := [(.slc TGroup), (.slc TGroup), (.int .i64), (.int .i64)]

end Go.Fn
