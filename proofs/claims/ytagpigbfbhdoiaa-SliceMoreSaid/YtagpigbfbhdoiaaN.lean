/- What the functions compute, as native texts: written by the session's program gen.py out of the translation. -/
import Derived.Test.YtagpigbfbhdoiaaViB
set_option linter.unusedVariables false
namespace Go.Fn
open Go Go.Vi

abbrev Wide := (Int × Int)
abbrev TWide : Ty := (.pair (.int .u64) (.int .u64))
abbrev Purse := (Int × Bool)
abbrev TPurse : Ty := (.pair (.int .i64) .bool)
abbrev Header := (List Wide)
abbrev THeader : Ty := (.arr 24 TWide)
abbrev Tern := (Wide × Wide)
abbrev TTern : Ty := (.pair TWide TWide)
abbrev Fault := (Bool × (Int × Int))
abbrev TFault : Ty := (.pair .bool (.pair (.int .i64) (.int .i64)))
abbrev Look := Purse
abbrev TLook : Ty := (.one TPurse)
abbrev Cube := (List Tern)
abbrev TCube : Ty := (.arr 24 TTern)
abbrev Oxm := (Int × (Bool × Tern))
abbrev TOxm : Ty := (.pair (.int .i64) (.pair .bool TTern))
abbrev Atom := (Cube × Fault)
abbrev TAtom : Ty := (.pair TCube TFault)
abbrev Heap := ((List Cube) × Int)
abbrev THeap : Ty := (.pair (.slc TCube) (.int .i64))
abbrev Rule := (Cube × (List Atom))
abbrev TRule : Ty := (.pair TCube (.slc TAtom))
abbrev Action := (Int × (Int × (Int × (Int × (Int × Oxm)))))
abbrev TAction : Ty := (.pair (.int .i64) (.pair (.int .i64) (.pair (.int .i64) (.pair (.int .i64) (.pair (.int .i64) TOxm)))))
abbrev Bucket := (Int × (Int × (Int × (List Action))))
abbrev TBucket : Ty := (.pair (.int .i64) (.pair (.int .i64) (.pair (.int .i64) (.slc TAction))))
abbrev Group := (Int × (Int × (List Bucket)))
abbrev TGroup : Ty := (.pair (.int .i64) (.pair (.int .i64) (.slc TBucket)))
abbrev GroupMod := (Int × Group)
abbrev TGroupMod : Ty := (.pair (.int .i64) TGroup)
abbrev Flat := ((List Rule) × (List Group))
abbrev TFlat : Ty := (.pair (.slc TRule) (.slc TGroup))

def ref02_And (a : Wide) (b : Wide) : Wide :=
  (bitsI .and .u64 a.1 b.1, bitsI .and .u64 a.2 b.2)

def ref02_Xor (a : Wide) (b : Wide) : Wide :=
  (bitsI .xor .u64 a.1 b.1, bitsI .xor .u64 a.2 b.2)

def ref02_Zero (a : Wide) : Bool :=
  bif ((a.1 == 0) == true) then
    (a.2 == 0)
  else
  false
def ref02_Zero.o (a : Wide) : Option Bool :=
  bif ((a.1 == 0) == true) then
    some (a.2 == 0)
  else
  some false
theorem ref02_Zero.o_eq (a : Wide) : ref02_Zero.o a = some (ref02_Zero a) := by simp only [ref02_Zero.o, ref02_Zero, cond_some, obind_some]

def ref05_Clean (t : Tern) : Tern :=
  let r5 : Wide := ref02_And t.1 t.2
  (r5, t.2)

def ref02_Or (a : Wide) (b : Wide) : Wide :=
  (bitsI .or .u64 a.1 b.1, bitsI .or .u64 a.2 b.2)

def ref05_Meet (a : Tern) (b : Tern) : (Tern × Bool) :=
  let r1 : Wide := ref02_And a.2 b.2
  let r2 : Wide := ref02_Xor a.1 b.1
  let r3 : Wide := ref02_And r2 r1
  let r4 : Bool := ref02_Zero r3
  bif !r4 then
    (((0, 0), 0, 0), false)
  else
  let r6 : Tern := ref05_Clean a
  let r7 : Tern := ref05_Clean b
  let r8 : Wide := ref02_Or r6.1 r7.1
  let r9 : Wide := ref02_Or r6.2 r7.2
  ((r8, r9), true)
def ref05_Meet.o (a : Tern) (b : Tern) : Option (Tern × Bool) :=
  obind (some (ref02_And a.2 b.2)) fun (r1 : Wide) =>
  obind (some (ref02_Xor a.1 b.1)) fun (r2 : Wide) =>
  obind (some (ref02_And r2 r1)) fun (r3 : Wide) =>
  obind (some (ref02_Zero r3)) fun (r4 : Bool) =>
  bif !r4 then
    some (((0, 0), 0, 0), false)
  else
  obind (some (ref05_Clean a)) fun (r6 : Tern) =>
  obind (some (ref05_Clean b)) fun (r7 : Tern) =>
  obind (some (ref02_Or r6.1 r7.1)) fun (r8 : Wide) =>
  obind (some (ref02_Or r6.2 r7.2)) fun (r9 : Wide) =>
  some ((r8, r9), true)
theorem ref05_Meet.o_eq (a : Tern) (b : Tern) : ref05_Meet.o a b = some (ref05_Meet a b) := by simp only [ref05_Meet.o, ref05_Meet, cond_some, obind_some]

def ref06_Meet.s0 (n : Nat) (k0 : (Int → Cube → Option (Cube × Bool))) (f : Int) (a_1 : Cube) (b_1 : Cube) (v4 : Cube) (c : Cube) : Option (Cube × Bool) :=
  bif decide (f < 24) then
    bif inRange f 24 then
    bif inRange f 24 then
    obind (some (ref05_Meet (List.getD a_1 (Int.toNat f) ((0, 0), 0, 0)) (List.getD b_1 (Int.toNat f) ((0, 0), 0, 0)))) fun (r10 : (Tern × Bool)) =>
    bif !r10.2 then
      some (([((0, 0), 0, 0), ((0, 0), 0, 0), ((0, 0), 0, 0), ((0, 0), 0, 0), ((0, 0), 0, 0), ((0, 0), 0, 0), ((0, 0), 0, 0), ((0, 0), 0, 0), ((0, 0), 0, 0), ((0, 0), 0, 0), ((0, 0), 0, 0), ((0, 0), 0, 0), ((0, 0), 0, 0), ((0, 0), 0, 0), ((0, 0), 0, 0), ((0, 0), 0, 0), ((0, 0), 0, 0), ((0, 0), 0, 0), ((0, 0), 0, 0), ((0, 0), 0, 0), ((0, 0), 0, 0), ((0, 0), 0, 0), ((0, 0), 0, 0), ((0, 0), 0, 0)] : Cube), false)
    else
    bif inRange f 24 then
    k0 (IntKind.wrap .i64 (f + 1)) (List.set c (Int.toNat f) r10.1)
    else none
    else none
    else none
  else
  some (c, true)

def ref06_Meet.l0 (n : Nat) (a_1 : Cube) (b_1 : Cube) (v4 : Cube) : Nat → Int → Cube → Option (Cube × Bool)
  | 0, _, _ => none
  | m + 1, f, c => ref06_Meet.s0 n (fun f' c' => ref06_Meet.l0 n a_1 b_1 v4 m f' c') f a_1 b_1 v4 c

def ref06_Meet.s (n : Nat) (k0 : (Int → Cube → Cube → Cube → Cube → Option (Cube × Bool))) (a : Cube) (b : Cube) : Option (Cube × Bool) :=
  k0 0 a b (List.replicate 24 ((0, 0), 0, 0)) ([((0, 0), 0, 0), ((0, 0), 0, 0), ((0, 0), 0, 0), ((0, 0), 0, 0), ((0, 0), 0, 0), ((0, 0), 0, 0), ((0, 0), 0, 0), ((0, 0), 0, 0), ((0, 0), 0, 0), ((0, 0), 0, 0), ((0, 0), 0, 0), ((0, 0), 0, 0), ((0, 0), 0, 0), ((0, 0), 0, 0), ((0, 0), 0, 0), ((0, 0), 0, 0), ((0, 0), 0, 0), ((0, 0), 0, 0), ((0, 0), 0, 0), ((0, 0), 0, 0), ((0, 0), 0, 0), ((0, 0), 0, 0), ((0, 0), 0, 0), ((0, 0), 0, 0)] : Cube)

def ref06_Meet (n : Nat) (a : Cube) (b : Cube) : Option (Cube × Bool) := ref06_Meet.s n (fun f a_1 b_1 v4 c => ref06_Meet.l0 n a_1 b_1 v4 n f c) a b

def ref08_Meets.s0 (n : Nat) (k0 : ((List Cube) → Int → Option (List Cube))) (l_1 : (List Cube)) (out : (List Cube)) (i : Int) (c_1 : Cube) : Option (List Cube) :=
  bif decide (i < ((List.length l_1 : Nat) : Int)) then
    bif inRange i (List.length l_1) then
    obind (ref06_Meet n c_1 (List.getD l_1 (Int.toNat i) (List.replicate 24 ((0, 0), 0, 0)))) fun (r11 : (Cube × Bool)) =>
    bif r11.2 then
      bif inRange i (List.length l_1) then
      let y0 : Cube := List.replicate 24 ((0, 0), 0, 0)
      let y1 : Cube := List.getD l_1 (Int.toNat i) y0
      bif decide ((List.length out + List.length ([y1] : (List Cube))) * 768 ≤ 140737488355328) then
      k0 (out ++ ([y1] : (List Cube))) (IntKind.wrap .i64 (i + 1))
      else none
      else none
    else
    k0 out (IntKind.wrap .i64 (i + 1))
    else none
  else
  some out

def ref08_Meets.l0 (n : Nat) (l_1 : (List Cube)) (c_1 : Cube) : Nat → (List Cube) → Int → Option (List Cube)
  | 0, _, _ => none
  | m + 1, out, i => ref08_Meets.s0 n (fun out' i' => ref08_Meets.l0 n l_1 c_1 m out' i') l_1 out i c_1

def ref08_Meets.s (n : Nat) (k0 : ((List Cube) → (List Cube) → Int → Cube → Option (List Cube))) (c : Cube) (l : (List Cube)) : Option (List Cube) :=
  k0 l ([] : (List Cube)) 0 c

def ref08_Meets (n : Nat) (c : Cube) (l : (List Cube)) : Option (List Cube) := ref08_Meets.s n (fun l_1 out i c_1 => ref08_Meets.l0 n l_1 c_1 n out i) c l

def ref02_Bit (i : Int) : Option Wide :=
  bif ((decide (i < 0)) == false) then
    bif decide (i > 127) then
      some (0, 0)
    else
    bif decide (i < 64) then
      bif !(decide ((IntKind.wrap .u64 i) < 0)) then
      some (0, shlI .u64 1 (IntKind.wrap .u64 i))
      else none
    else
    let y0 : Int := IntKind.wrap .u64 (IntKind.wrap .i64 (i - 64))
    bif !(decide (y0 < 0)) then
    some (shlI .u64 1 y0, 0)
    else none
  else
  some (0, 0)

def ref02_Has (a : Wide) (i : Int) : Option Bool :=
  obind (ref02_Bit i) fun (r13 : Wide) =>
  obind (some (ref02_And a r13)) fun (r14 : Wide) =>
  obind (some (ref02_Zero r14)) fun (r15 : Bool) =>
  some (!r15)

def ref02_Many.s0 (n : Nat) (k0 : (Int → Int → Option Int)) (n3 : Int) (i : Int) (a_1 : Wide) : Option Int :=
  bif decide (i < 128) then
    obind (ref02_Has a_1 i) fun (r16 : Bool) =>
    bif r16 then
      k0 (IntKind.wrap .i64 (n3 + 1)) (IntKind.wrap .i64 (i + 1))
    else
    k0 n3 (IntKind.wrap .i64 (i + 1))
  else
  some n3

def ref02_Many.l0 (n : Nat) (a_1 : Wide) : Nat → Int → Int → Option Int
  | 0, _, _ => none
  | m + 1, n3, i => ref02_Many.s0 n (fun n3' i' => ref02_Many.l0 n a_1 m n3' i') n3 i a_1

def ref02_Many.s (n : Nat) (k0 : (Int → Int → Wide → Option Int)) (a : Wide) : Option Int :=
  k0 0 0 a

def ref02_Many (n : Nat) (a : Wide) : Option Int := ref02_Many.s n (fun n3 i a_1 => ref02_Many.l0 n a_1 n n3 i) a

def ref06_Size.s0 (n : Nat) (k0 : (Int → Int → Option Int)) (n3 : Int) (f : Int) (c_1 : Cube) : Option Int :=
  bif decide (f < 24) then
    bif inRange f 24 then
    obind (ref02_Many n (List.getD c_1 (Int.toNat f) ((0, 0), 0, 0)).2) fun (r17 : Int) =>
    k0 (IntKind.wrap .i64 (n3 + r17)) (IntKind.wrap .i64 (f + 1))
    else none
  else
  some n3

def ref06_Size.l0 (n : Nat) (c_1 : Cube) : Nat → Int → Int → Option Int
  | 0, _, _ => none
  | m + 1, n3, f => ref06_Size.s0 n (fun n3' f' => ref06_Size.l0 n c_1 m n3' f') n3 f c_1

def ref06_Size.s (n : Nat) (k0 : (Int → Int → Cube → Option Int)) (c : Cube) : Option Int :=
  k0 0 0 c

def ref06_Size (n : Nat) (c : Cube) : Option Int := ref06_Size.s n (fun n3 f c_1 => ref06_Size.l0 n c_1 n n3 f) c

def ref08_Bound.s0 (n : Nat) (k0 : (Int → Int → Option Int)) (m5 : (List Cube)) (n6 : Int) (i : Int) : Option Int :=
  bif decide (i < ((List.length m5 : Nat) : Int)) then
    bif inRange i (List.length m5) then
    obind (ref06_Size n (List.getD m5 (Int.toNat i) (List.replicate 24 ((0, 0), 0, 0)))) fun (r18 : Int) =>
    k0 (minI (IntKind.wrap .i64 (n6 * (maxI r18 1))) 1099511627776) (IntKind.wrap .i64 (i + 1))
    else none
  else
  some n6

def ref08_Bound.l0 (n : Nat) (m5 : (List Cube)) : Nat → Int → Int → Option Int
  | 0, _, _ => none
  | m + 1, n6, i => ref08_Bound.s0 n (fun n6' i' => ref08_Bound.l0 n m5 m n6' i') m5 n6 i

def ref08_Bound.s (n : Nat) (k0 : ((List Cube) → Int → Int → Option Int)) (c : Cube) (l : (List Cube)) : Option Int :=
  obind (ref08_Meets n c l) fun (r12 : (List Cube)) =>
  k0 r12 (minI (IntKind.wrap .i64 (((List.length r12 : Nat) : Int) + 1)) 1099511627776) 0

def ref08_Bound (n : Nat) (c : Cube) (l : (List Cube)) : Option Int := ref08_Bound.s n (fun m5 n6 i => ref08_Bound.l0 n m5 n n6 i) c l

def law08_light (n : Nat) (c : Cube) (l : (List Cube)) (most : Int) : Option Bool :=
  bif ((decide (((List.length l : Nat) : Int) ≤ 12)) == true) then
    bif ((decide (most ≤ 16384)) == false) then
      obind (ref08_Bound n c l) fun (r19 : Int) =>
      some (decide (r19 ≤ 16384))
    else
    some true
  else
  some false

def law08_light.τs : List Ty := [TCube, (.slc TCube), (.int .i64)]

def cube_All : Cube :=
  ([((0, 0), 0, 0), ((0, 0), 0, 0), ((0, 0), 0, 0), ((0, 0), 0, 0), ((0, 0), 0, 0), ((0, 0), 0, 0), ((0, 0), 0, 0), ((0, 0), 0, 0), ((0, 0), 0, 0), ((0, 0), 0, 0), ((0, 0), 0, 0), ((0, 0), 0, 0), ((0, 0), 0, 0), ((0, 0), 0, 0), ((0, 0), 0, 0), ((0, 0), 0, 0), ((0, 0), 0, 0), ((0, 0), 0, 0), ((0, 0), 0, 0), ((0, 0), 0, 0), ((0, 0), 0, 0), ((0, 0), 0, 0), ((0, 0), 0, 0), ((0, 0), 0, 0)] : Cube)

def cover_purse_pay (p : Purse) : Option (Purse × Bool) :=
  bif p.2 then
    some (p, true)
  else
  some ((IntKind.wrap .i64 (p.1 - 1), p.2), decide ((IntKind.wrap .i64 (p.1 - 1)) ≥ 0))

def wide_And (a : Wide) (b : Wide) : Wide :=
  (bitsI .and .u64 a.1 b.1, bitsI .and .u64 a.2 b.2)

def wide_Xor (a : Wide) (b : Wide) : Wide :=
  (bitsI .xor .u64 a.1 b.1, bitsI .xor .u64 a.2 b.2)

def tern_unlike (a : Wide) (b : Wide) (mask : Wide) : Wide :=
  let r24 : Wide := wide_Xor a b
  let r25 : Wide := wide_And r24 mask
  r25

def wide_Zero (a : Wide) : Bool :=
  ((bitsI .or .u64 a.1 a.2) == 0)

def tern_Has (t : Tern) (v : Wide) : Bool :=
  let r26 : Wide := tern_unlike t.1 v t.2
  let r27 : Bool := wide_Zero r26
  r27

def tern_Clean (t : Tern) : Tern :=
  let r29 : Wide := wide_And t.1 t.2
  (r29, t.2)

def wide_Or (a : Wide) (b : Wide) : Wide :=
  (bitsI .or .u64 a.1 b.1, bitsI .or .u64 a.2 b.2)

def tern_Meet (a : Tern) (b : Tern) : (Tern × Bool) :=
  let r23 : Wide := wide_And a.2 b.2
  let r28 : Bool := tern_Has (a.1, r23) b.1
  bif !r28 then
    (((0, 0), 0, 0), false)
  else
  let r30 : Tern := tern_Clean a
  let r31 : Tern := tern_Clean b
  let r32 : Wide := wide_Or r30.1 r31.1
  let r33 : Wide := wide_Or r30.2 r31.2
  ((r32, r33), true)
def tern_Meet.o (a : Tern) (b : Tern) : Option (Tern × Bool) :=
  obind (some (wide_And a.2 b.2)) fun (r23 : Wide) =>
  obind (some (tern_Has (a.1, r23) b.1)) fun (r28 : Bool) =>
  bif !r28 then
    some (((0, 0), 0, 0), false)
  else
  obind (some (tern_Clean a)) fun (r30 : Tern) =>
  obind (some (tern_Clean b)) fun (r31 : Tern) =>
  obind (some (wide_Or r30.1 r31.1)) fun (r32 : Wide) =>
  obind (some (wide_Or r30.2 r31.2)) fun (r33 : Wide) =>
  some ((r32, r33), true)
theorem tern_Meet.o_eq (a : Tern) (b : Tern) : tern_Meet.o a b = some (tern_Meet a b) := by simp only [tern_Meet.o, tern_Meet, cond_some, obind_some]

def cube_Meet_1 (i : Int) (c0 : Cube) (c1 : Cube) : Option (Tern × Bool) :=
  bif inRange i 24 then
  bif inRange i 24 then
  obind (some (tern_Meet (List.getD c0 (Int.toNat i) ((0, 0), 0, 0)) (List.getD c1 (Int.toNat i) ((0, 0), 0, 0)))) fun (r34 : (Tern × Bool)) =>
  some (r34.1, r34.2)
  else none
  else none

def cube_each.s0 (n : Nat) (k0 : (Int → Cube → Option (Cube × Bool))) (f_1 : (Int → Option (Tern × Bool))) (v8 : Int) (v2 : Cube) (c : Cube) : Option (Cube × Bool) :=
  bif decide (v8 < 24) then
    obind (f_1 v8) fun (r36 : (Tern × Bool)) =>
    bif !r36.2 then
      some (([((0, 0), 0, 0), ((0, 0), 0, 0), ((0, 0), 0, 0), ((0, 0), 0, 0), ((0, 0), 0, 0), ((0, 0), 0, 0), ((0, 0), 0, 0), ((0, 0), 0, 0), ((0, 0), 0, 0), ((0, 0), 0, 0), ((0, 0), 0, 0), ((0, 0), 0, 0), ((0, 0), 0, 0), ((0, 0), 0, 0), ((0, 0), 0, 0), ((0, 0), 0, 0), ((0, 0), 0, 0), ((0, 0), 0, 0), ((0, 0), 0, 0), ((0, 0), 0, 0), ((0, 0), 0, 0), ((0, 0), 0, 0), ((0, 0), 0, 0), ((0, 0), 0, 0)] : Cube), false)
    else
    bif inRange v8 24 then
    k0 (IntKind.wrap .i64 (v8 + 1)) (List.set c (Int.toNat v8) r36.1)
    else none
  else
  some (c, true)

def cube_each.l0 (n : Nat) (f_1 : (Int → Option (Tern × Bool))) (v2 : Cube) : Nat → Int → Cube → Option (Cube × Bool)
  | 0, _, _ => none
  | m + 1, v8, c => cube_each.s0 n (fun v8' c' => cube_each.l0 n f_1 v2 m v8' c') f_1 v8 v2 c

def cube_each.s (n : Nat) (k0 : ((Int → Option (Tern × Bool)) → Int → Cube → Cube → Option (Cube × Bool))) (f : (Int → Option (Tern × Bool))) : Option (Cube × Bool) :=
  k0 f 0 (List.replicate 24 ((0, 0), 0, 0)) (List.replicate 24 ((0, 0), 0, 0))

def cube_each (n : Nat) (f : (Int → Option (Tern × Bool))) : Option (Cube × Bool) := cube_each.s n (fun f_1 v8 v2 c => cube_each.l0 n f_1 v2 n v8 c) f

def cube_Meet (n : Nat) (a : Cube) (b : Cube) : Option (Cube × Bool) :=
  obind (cube_each n (fun (x35 : Int) => cube_Meet_1 x35 a b)) fun (r37 : (Cube × Bool)) =>
  some (r37.1, r37.2)

def wide_Less (a : Wide) (b : Wide) : Wide :=
  (bitsI .andNot .u64 a.1 b.1, bitsI .andNot .u64 a.2 b.2)

def tern_Within (a : Tern) (b : Tern) : Bool :=
  let r39 : Wide := wide_Less b.2 a.2
  let r40 : Bool := wide_Zero r39
  bif (r40 == true) then
    let r41 : Bool := tern_Has b a.1
    r41
  else
  false
def tern_Within.o (a : Tern) (b : Tern) : Option Bool :=
  obind (some (wide_Less b.2 a.2)) fun (r39 : Wide) =>
  obind (some (wide_Zero r39)) fun (r40 : Bool) =>
  bif (r40 == true) then
    obind (some (tern_Has b a.1)) fun (r41 : Bool) =>
    some r41
  else
  some false
theorem tern_Within.o_eq (a : Tern) (b : Tern) : tern_Within.o a b = some (tern_Within a b) := by simp only [tern_Within.o, tern_Within, cond_some, obind_some]

def cube_Within.s0 (n : Nat) (k0 : (Int → Option Bool)) (v7 : Cube) (v8 : Int) (b_1 : Cube) : Option Bool :=
  bif decide (v8 < 24) then
    bif inRange v8 24 then
    bif inRange v8 24 then
    obind (some (tern_Within (List.getD v7 (Int.toNat v8) ((0, 0), 0, 0)) (List.getD b_1 (Int.toNat v8) ((0, 0), 0, 0)))) fun (r42 : Bool) =>
    bif !r42 then
      some false
    else
    k0 (IntKind.wrap .i64 (v8 + 1))
    else none
    else none
  else
  some true

def cube_Within.l0 (n : Nat) (v7 : Cube) (b_1 : Cube) : Nat → Int → Option Bool
  | 0, _ => none
  | m + 1, v8 => cube_Within.s0 n (fun v8' => cube_Within.l0 n v7 b_1 m v8') v7 v8 b_1

def cube_Within.s (n : Nat) (k0 : (Cube → Int → Cube → Option Bool)) (a : Cube) (b : Cube) : Option Bool :=
  k0 a 0 b

def cube_Within (n : Nat) (a : Cube) (b : Cube) : Option Bool := cube_Within.s n (fun v7 v8 b_1 => cube_Within.l0 n v7 b_1 n v8) a b

def cover_among.s0 (n : Nat) (k0 : (Int → Int → Option (Bool × Int))) (first : Int) (v11 : (List Cube)) (v12 : Int) (v13 : Int) (c_1 : Cube) : Option (Bool × Int) :=
  bif decide (v13 < v12) then
    bif inRange v13 (List.length v11) then
    let y0 : Cube := List.replicate 24 ((0, 0), 0, 0)
    let y1 : Cube := List.getD v11 (Int.toNat v13) y0
    obind (cube_Meet n c_1 y1) fun (r38 : (Cube × Bool)) =>
    bif !r38.2 then
      k0 first (IntKind.wrap .i64 (v13 + 1))
    else
    obind (cube_Within n c_1 y1) fun (r43 : Bool) =>
    bif r43 then
      some (true, v13)
    else
    bif decide (first < 0) then
      k0 v13 (IntKind.wrap .i64 (v13 + 1))
    else
    k0 first (IntKind.wrap .i64 (v13 + 1))
    else none
  else
  some (false, first)

def cover_among.l0 (n : Nat) (v11 : (List Cube)) (v12 : Int) (c_1 : Cube) : Nat → Int → Int → Option (Bool × Int)
  | 0, _, _ => none
  | m + 1, first, v13 => cover_among.s0 n (fun first' v13' => cover_among.l0 n v11 v12 c_1 m first' v13') first v11 v12 v13 c_1

def cover_among.s (n : Nat) (k0 : (Int → (List Cube) → Int → Int → Cube → Option (Bool × Int))) (c : Cube) (l : (List Cube)) : Option (Bool × Int) :=
  k0 (-1) l ((List.length l : Nat) : Int) 0 c

def cover_among (n : Nat) (c : Cube) (l : (List Cube)) : Option (Bool × Int) := cover_among.s n (fun first v11 v12 v13 c_1 => cover_among.l0 n v11 v12 c_1 n first v13) c l

def cube_Pick.s0 (n : Nat) (k0 : (Int → Header → Option Header)) (v6 : Cube) (v7 : Int) (v2 : Header) (h : Header) : Option Header :=
  bif decide (v7 < 24) then
    bif inRange v7 24 then
    obind (some (tern_Clean (List.getD v6 (Int.toNat v7) ((0, 0), 0, 0)))) fun (r45 : Tern) =>
    bif inRange v7 24 then
    k0 (IntKind.wrap .i64 (v7 + 1)) (List.set h (Int.toNat v7) r45.1)
    else none
    else none
  else
  some h

def cube_Pick.l0 (n : Nat) (v6 : Cube) (v2 : Header) : Nat → Int → Header → Option Header
  | 0, _, _ => none
  | m + 1, v7, h => cube_Pick.s0 n (fun v7' h' => cube_Pick.l0 n v6 v2 m v7' h') v6 v7 v2 h

def cube_Pick.s (n : Nat) (k0 : (Cube → Int → Header → Header → Option Header)) (c : Cube) : Option Header :=
  k0 c 0 (List.replicate 24 (0, 0)) (List.replicate 24 (0, 0))

def cube_Pick (n : Nat) (c : Cube) : Option Header := cube_Pick.s n (fun v6 v7 v2 h => cube_Pick.l0 n v6 v2 n v7 h) c

def cube_Clean_1 (i : Int) (c0 : Cube) : Option (Tern × Bool) :=
  bif inRange i 24 then
  obind (some (tern_Clean (List.getD c0 (Int.toNat i) ((0, 0), 0, 0)))) fun (r47 : Tern) =>
  some (r47, true)
  else none

def cube_Clean (n : Nat) (c : Cube) : Option Cube :=
  obind (cube_each n (fun (x48 : Int) => cube_Clean_1 x48 c)) fun (r49 : (Cube × Bool)) =>
  some r49.1

def math_bits_OnesCount64 (x : Int) : Int :=
  let y0 : Int := IntKind.wrap .u64 ((bitsI .and .u64 (shrI .u64 x 1) 6148914691236517205) + (bitsI .and .u64 x 6148914691236517205))
  let y1 : Int := IntKind.wrap .u64 ((bitsI .and .u64 (shrI .u64 y0 2) 3689348814741910323) + (bitsI .and .u64 y0 3689348814741910323))
  let y2 : Int := bitsI .and .u64 (IntKind.wrap .u64 ((shrI .u64 y1 4) + y1)) 1085102592571150095
  let y3 : Int := IntKind.wrap .u64 (y2 + (shrI .u64 y2 8))
  let y4 : Int := IntKind.wrap .u64 (y3 + (shrI .u64 y3 16))
  bitsI .and .i64 (IntKind.wrap .i64 (IntKind.wrap .u64 (y4 + (shrI .u64 y4 32)))) 127

def wide_Many (a : Wide) : Int :=
  let r53 : Int := math_bits_OnesCount64 a.1
  let r54 : Int := math_bits_OnesCount64 a.2
  IntKind.wrap .i64 (r53 + r54)

def wide_Bit (i : Int) : Option Wide :=
  bif ((decide (i < 0)) == false) then
    bif decide (i > 127) then
      some (0, 0)
    else
    bif !(decide ((Int.tmod i 64) < 0)) then
    bif inRange (IntKind.wrap .i64 (Int.tdiv i 64)) 2 then
    let y0 : (List Int) := List.set (List.replicate 2 0) (Int.toNat (IntKind.wrap .i64 (Int.tdiv i 64))) (shlI .u64 1 (Int.tmod i 64))
    some (List.getD y0 1 0, List.getD y0 0 0)
    else none
    else none
  else
  some (0, 0)

def wide_Has (a : Wide) (i : Int) : Option Bool :=
  obind (wide_Bit i) fun (r56 : Wide) =>
  obind (some (wide_And a r56)) fun (r57 : Wide) =>
  obind (some (wide_Zero r57)) fun (r58 : Bool) =>
  some (!r58)

def tern_Bits.s0 (n : Nat) (k0 : ((List Int) → Int → Option (List Int))) (out : (List Int)) (i : Int) (free : Wide) : Option (List Int) :=
  bif ((decide (i ≥ 0)) == true) then
    obind (some (wide_Many free)) fun (r55 : Int) =>
    bif decide (((List.length out : Nat) : Int) < r55) then
      obind (wide_Has free i) fun (r59 : Bool) =>
      bif r59 then
        bif decide ((List.length out + List.length ([i] : (List Int))) * 8 ≤ 140737488355328) then
        k0 (out ++ ([i] : (List Int))) (IntKind.wrap .i64 (i - 1))
        else none
      else
      k0 out (IntKind.wrap .i64 (i - 1))
    else
    some out
  else
  some out

def tern_Bits.l0 (n : Nat) (free : Wide) : Nat → (List Int) → Int → Option (List Int)
  | 0, _, _ => none
  | m + 1, out, i => tern_Bits.s0 n (fun out' i' => tern_Bits.l0 n free m out' i') out i free

def tern_Bits.s (n : Nat) (k0 : ((List Int) → Int → Wide → Option (List Int))) (a : Tern) (b : Tern) : Option (List Int) :=
  obind (some (wide_Less b.2 a.2)) fun (r52 : Wide) =>
  k0 ([] : (List Int)) 127 r52

def tern_Bits (n : Nat) (a : Tern) (b : Tern) : Option (List Int) := tern_Bits.s n (fun out i free => tern_Bits.l0 n free n out i) a b

def tern_Fix (t : Tern) (i : Int) (on : Bool) : Option Tern :=
  obind (wide_Bit i) fun (r62 : Wide) =>
  obind (some (tern_Clean t)) fun (r63 : Tern) =>
  obind (some (wide_Or r63.2 r62)) fun (r64 : Wide) =>
  obind (some (wide_Less r63.1 r62)) fun (r65 : Wide) =>
  bif on then
    obind (some (wide_Or r65 r62)) fun (r66 : Wide) =>
    some (r66, r64)
  else
  some (r65, r64)

def carve_Parts_1.s1 (n : Nat) (k1 : (Int → Cube → Option (List Cube))) (k0 : (Cube → Int → Cube → Option (List Cube))) (f : Int) (v27_1 : Cube) (v28_1 : Int) (v40 : (List Int)) (v41 : Int) (v42 : Int) (left_1 : Cube) (t : Tern) : Option (List Cube) :=
  bif decide (v42 < v41) then
    bif inRange v42 (List.length v40) then
    let y0 : Int := List.getD v40 (Int.toNat v42) 0
    obind (wide_Has t.1 y0) fun (r61 : Bool) =>
    bif inRange f 24 then
    obind (tern_Fix (List.getD left_1 (Int.toNat f) ((0, 0), 0, 0)) y0 (!r61)) fun (r67 : Tern) =>
    bif inRange f 24 then
    obind (
      bif inRange f 24 then
      obind (tern_Fix (List.getD left_1 (Int.toNat f) ((0, 0), 0, 0)) y0 r61) fun (r68 : Tern) =>
      bif inRange f 24 then
      k1 (IntKind.wrap .i64 (v42 + 1)) (List.set left_1 (Int.toNat f) r68)
      else none
      else none
    ) fun (z2 : (List Cube)) => some (List.set left_1 (Int.toNat f) r67 :: z2)
    else none
    else none
    else none
  else
  k0 v27_1 (IntKind.wrap .i64 (v28_1 + 1)) left_1

def carve_Parts_1.l1 (n : Nat) (f : Int) (v27_1 : Cube) (v28_1 : Int) (v40 : (List Int)) (v41 : Int) (t : Tern) (k0 : (Cube → Int → Cube → Option (List Cube))) : Nat → Int → Cube → Option (List Cube)
  | 0, _, _ => none
  | m + 1, v42, left_1 => carve_Parts_1.s1 n (fun v42' left_1' => carve_Parts_1.l1 n f v27_1 v28_1 v40 v41 t k0 m v42' left_1') k0 f v27_1 v28_1 v40 v41 v42 left_1 t

def carve_Parts_1.s0 (n : Nat) (k0 : (Int → Cube → Option (List Cube))) (k1 : (Int → Cube → Int → (List Int) → Int → Int → Cube → Tern → Option (List Cube))) (v27 : Cube) (v28 : Int) (left : Cube) : Option (List Cube) :=
  bif decide (v28 < 24) then
    bif inRange v28 24 then
    bif inRange v28 24 then
    let y0 : Tern := List.getD v27 (Int.toNat v28) ((0, 0), 0, 0)
    obind (tern_Bits n (List.getD left (Int.toNat v28) ((0, 0), 0, 0)) y0) fun (r60 : (List Int)) =>
    bif (((List.length r60 : Nat) : Int) == 0) then
      k0 (IntKind.wrap .i64 (v28 + 1)) left
    else
    k1 v28 v27 v28 r60 ((List.length r60 : Nat) : Int) 0 left y0
    else none
    else none
  else
  some []

def carve_Parts_1.l0 (n : Nat) (v27 : Cube) : Nat → Int → Cube → Option (List Cube)
  | 0, _, _ => none
  | m + 1, v28, left => carve_Parts_1.s0 n (fun v28' left' => carve_Parts_1.l0 n v27 m v28' left') (fun f' v27_1' v28_1' v40' v41' v42' left_1' t' => carve_Parts_1.l1 n f' v27_1' v28_1' v40' v41' t' (fun v27'' v28'' left'' => carve_Parts_1.l0 n v27'' m v28'' left'') n v42' left_1') v27 v28 left

def carve_Parts_1.s (n : Nat) (k0 : (Cube → Int → Cube → Option (List Cube))) (c0 : Cube) (c1 : Cube) : Option (List Cube) :=
  obind (cube_Clean n c0) fun (r50 : Cube) =>
  obind (cube_Meet n c0 c1) fun (r51 : (Cube × Bool)) =>
  bif !r51.2 then
    obind (
      some []
    ) fun (z1 : (List Cube)) => some (r50 :: z1)
  else
  k0 c1 0 r50

def carve_Parts_1 (n : Nat) (c0 : Cube) (c1 : Cube) : Option (List Cube) := carve_Parts_1.s n (fun v27 v28 left => carve_Parts_1.l0 n v27 n v28 left) c0 c1

def carve_Parts (n : Nat) (a : Cube) (b : Cube) : Option (List Cube) :=
  obind (carve_Parts_1 n a b) fun (r69 : (List Cube)) =>
  some r69

def cover_look_at.z0 (n : Nat) (rec : Look → Cube → (List Cube) → Option (Look × Header × Bool × Bool)) (s_1 : Purse) (l_1 : (List Cube)) (v6 : Header) (i : Int) (h : Header) (found : Bool) (enough : Bool) : Option (Look × Header × Bool × Bool) :=
  some (s_1, h, found, enough)

def cover_look_at.s0 (n : Nat) (rec : Look → Cube → (List Cube) → Option (Look × Header × Bool × Bool)) (k0 : (Purse → Header → Bool → Bool → Option (Look × Header × Bool × Bool))) (s_1 : Purse) (l_1 : (List Cube)) (v6 : Header) (i : Int) (h : Header) (found : Bool) (enough : Bool) (x : Cube) : Option (Look × Header × Bool × Bool) :=
  bif ((decide (0 ≤ (IntKind.wrap .i64 (i + 1)))) && (decide ((IntKind.wrap .i64 (i + 1)) ≤ ((List.length l_1 : Nat) : Int)))) then
  obind (rec s_1 x (List.drop (Int.toNat (IntKind.wrap .i64 (i + 1))) l_1)) fun (r71 : (Look × Header × Bool × Bool)) =>
  bif (r71.2.2.1 == false) then
    bif !r71.2.2.2 then
      some (r71.1, r71.2.1, r71.2.2.1, r71.2.2.2)
    else
    k0 r71.1 r71.2.1 r71.2.2.1 r71.2.2.2
  else
  some (r71.1, r71.2.1, r71.2.2.1, r71.2.2.2)
  else none

def cover_look_at.l0 (n : Nat) (rec : Look → Cube → (List Cube) → Option (Look × Header × Bool × Bool)) (l_1 : (List Cube)) (v6 : Header) (i : Int) : (List Cube) → Purse → Header → Bool → Bool → Option (Look × Header × Bool × Bool)
  | [], s_1, h, found, enough => cover_look_at.z0 n rec s_1 l_1 v6 i h found enough
  | x :: xs, s_1, h, found, enough => cover_look_at.s0 n rec (fun s_1' h' found' enough' => cover_look_at.l0 n rec l_1 v6 i xs s_1' h' found' enough') s_1 l_1 v6 i h found enough x

def cover_look_at.s (n : Nat) (rec : Look → Cube → (List Cube) → Option (Look × Header × Bool × Bool)) (k0 : ((List Cube) → Purse → (List Cube) → Header → Int → Header → Bool → Bool → Option (Look × Header × Bool × Bool))) (s : Look) (c : Cube) (l : (List Cube)) : Option (Look × Header × Bool × Bool) :=
  obind (cover_purse_pay s) fun (r22 : (Purse × Bool)) =>
  bif !r22.2 then
    some (r22.1, ([(0, 0), (0, 0), (0, 0), (0, 0), (0, 0), (0, 0), (0, 0), (0, 0), (0, 0), (0, 0), (0, 0), (0, 0), (0, 0), (0, 0), (0, 0), (0, 0), (0, 0), (0, 0), (0, 0), (0, 0), (0, 0), (0, 0), (0, 0), (0, 0)] : Header), false, false)
  else
  obind (cover_among n c l) fun (r44 : (Bool × Int)) =>
  bif r44.1 then
    some (r22.1, ([(0, 0), (0, 0), (0, 0), (0, 0), (0, 0), (0, 0), (0, 0), (0, 0), (0, 0), (0, 0), (0, 0), (0, 0), (0, 0), (0, 0), (0, 0), (0, 0), (0, 0), (0, 0), (0, 0), (0, 0), (0, 0), (0, 0), (0, 0), (0, 0)] : Header), false, true)
  else
  bif decide (r44.2 < 0) then
    obind (cube_Pick n c) fun (r46 : Header) =>
    some (r22.1, r46, true, true)
  else
  bif inRange r44.2 (List.length l) then
  obind (carve_Parts n c (List.getD l (Int.toNat r44.2) (List.replicate 24 ((0, 0), 0, 0)))) fun (r70 : (List Cube)) =>
  k0 r70 r22.1 l (List.replicate 24 (0, 0)) r44.2 (List.replicate 24 (0, 0)) false true
  else none

def cover_look_at (n : Nat) : Nat → Look → Cube → (List Cube) → Option (Look × Header × Bool × Bool)
  | 0, _, _, _ => none
  | k + 1, s, c, l => cover_look_at.s n (cover_look_at n k) (fun xs s_1 l_1 v6 i h found enough => cover_look_at.l0 n (cover_look_at n k) l_1 v6 i xs s_1 h found enough) s c l

def cover_Look (n : Nat) (c : Cube) (l : (List Cube)) (most : Int) : Option (Header × Bool × Int) :=
  obind (cover_look_at n n (maxI most 0, decide (most ≥ 1099511627776)) c l) fun (r72 : (Look × Header × Bool × Bool)) =>
  bif !r72.2.2.2 then
    some (([(0, 0), (0, 0), (0, 0), (0, 0), (0, 0), (0, 0), (0, 0), (0, 0), (0, 0), (0, 0), (0, 0), (0, 0), (0, 0), (0, 0), (0, 0), (0, 0), (0, 0), (0, 0), (0, 0), (0, 0), (0, 0), (0, 0), (0, 0), (0, 0)] : Header), false, 5)
  else
  some (r72.2.1, r72.2.2.1, 0)

def cover_Meets.s0 (n : Nat) (k0 : ((List Cube) → Int → Option (List Cube))) (out : (List Cube)) (v10 : (List Cube)) (v11 : Int) (v12 : Int) (c_1 : Cube) : Option (List Cube) :=
  bif decide (v12 < v11) then
    bif inRange v12 (List.length v10) then
    let y0 : Cube := List.replicate 24 ((0, 0), 0, 0)
    let y1 : Cube := List.getD v10 (Int.toNat v12) y0
    obind (cube_Meet n c_1 y1) fun (r79 : (Cube × Bool)) =>
    bif r79.2 then
      bif decide ((List.length out + List.length ([y1] : (List Cube))) * 768 ≤ 140737488355328) then
      k0 (out ++ ([y1] : (List Cube))) (IntKind.wrap .i64 (v12 + 1))
      else none
    else
    k0 out (IntKind.wrap .i64 (v12 + 1))
    else none
  else
  some out

def cover_Meets.l0 (n : Nat) (v10 : (List Cube)) (v11 : Int) (c_1 : Cube) : Nat → (List Cube) → Int → Option (List Cube)
  | 0, _, _ => none
  | m + 1, out, v12 => cover_Meets.s0 n (fun out' v12' => cover_Meets.l0 n v10 v11 c_1 m out' v12') out v10 v11 v12 c_1

def cover_Meets.s (n : Nat) (k0 : ((List Cube) → (List Cube) → Int → Int → Cube → Option (List Cube))) (c : Cube) (l : (List Cube)) : Option (List Cube) :=
  k0 ([] : (List Cube)) l ((List.length l : Nat) : Int) 0 c

def cover_Meets (n : Nat) (c : Cube) (l : (List Cube)) : Option (List Cube) := cover_Meets.s n (fun out v10 v11 v12 c_1 => cover_Meets.l0 n v10 v11 c_1 n out v12) c l

def cube_Size.s0 (n : Nat) (k0 : (Int → Int → Option Int)) (n3 : Int) (v6 : Cube) (v7 : Int) : Option Int :=
  bif decide (v7 < 24) then
    bif inRange v7 24 then
    obind (some (wide_Many (List.getD v6 (Int.toNat v7) ((0, 0), 0, 0)).2)) fun (r81 : Int) =>
    k0 (IntKind.wrap .i64 (n3 + r81)) (IntKind.wrap .i64 (v7 + 1))
    else none
  else
  some n3

def cube_Size.l0 (n : Nat) (v6 : Cube) : Nat → Int → Int → Option Int
  | 0, _, _ => none
  | m + 1, n3, v7 => cube_Size.s0 n (fun n3' v7' => cube_Size.l0 n v6 m n3' v7') n3 v6 v7

def cube_Size.s (n : Nat) (k0 : (Int → Cube → Int → Option Int)) (c : Cube) : Option Int :=
  k0 0 c 0

def cube_Size (n : Nat) (c : Cube) : Option Int := cube_Size.s n (fun n3 v6 v7 => cube_Size.l0 n v6 n n3 v7) c

def cover_Bound.s0 (n : Nat) (k0 : (Int → Int → Option Int)) (n6 : Int) (v16 : (List Cube)) (v17 : Int) (v18 : Int) : Option Int :=
  bif decide (v18 < v17) then
    bif inRange v18 (List.length v16) then
    obind (cube_Size n (List.getD v16 (Int.toNat v18) (List.replicate 24 ((0, 0), 0, 0)))) fun (r82 : Int) =>
    k0 (minI (IntKind.wrap .i64 (n6 * (maxI r82 1))) 1099511627776) (IntKind.wrap .i64 (v18 + 1))
    else none
  else
  some n6

def cover_Bound.l0 (n : Nat) (v16 : (List Cube)) (v17 : Int) : Nat → Int → Int → Option Int
  | 0, _, _ => none
  | m + 1, n6, v18 => cover_Bound.s0 n (fun n6' v18' => cover_Bound.l0 n v16 v17 m n6' v18') n6 v16 v17 v18

def cover_Bound.s (n : Nat) (k0 : (Int → (List Cube) → Int → Int → Option Int)) (c : Cube) (l : (List Cube)) : Option Int :=
  obind (cover_Meets n c l) fun (r80 : (List Cube)) =>
  k0 (minI (IntKind.wrap .i64 (((List.length r80 : Nat) : Int) + 1)) 1099511627776) r80 ((List.length r80 : Nat) : Int) 0

def cover_Bound (n : Nat) (c : Cube) (l : (List Cube)) : Option Int := cover_Bound.s n (fun n6 v16 v17 v18 => cover_Bound.l0 n v16 v17 n n6 v18) c l

def law08_awake (n : Nat) : Option Bool :=
  obind (some cube_All) fun (r21 : Cube) =>
  obind (cover_Look n r21 ([([((0, 0), 0, 1), ((0, 0), 0, 0), ((0, 0), 0, 0), ((0, 0), 0, 0), ((0, 0), 0, 0), ((0, 0), 0, 0), ((0, 0), 0, 0), ((0, 0), 0, 0), ((0, 0), 0, 0), ((0, 0), 0, 0), ((0, 0), 0, 0), ((0, 0), 0, 0), ((0, 0), 0, 0), ((0, 0), 0, 0), ((0, 0), 0, 0), ((0, 0), 0, 0), ((0, 0), 0, 0), ((0, 0), 0, 0), ((0, 0), 0, 0), ((0, 0), 0, 0), ((0, 0), 0, 0), ((0, 0), 0, 0), ((0, 0), 0, 0), ((0, 0), 0, 0)] : Cube), ([((0, 1), 0, 1), ((0, 0), 0, 0), ((0, 0), 0, 0), ((0, 0), 0, 0), ((0, 0), 0, 0), ((0, 0), 0, 0), ((0, 0), 0, 0), ((0, 0), 0, 0), ((0, 0), 0, 0), ((0, 0), 0, 0), ((0, 0), 0, 0), ((0, 0), 0, 0), ((0, 0), 0, 0), ((0, 0), 0, 0), ((0, 0), 0, 0), ((0, 0), 0, 0), ((0, 0), 0, 0), ((0, 0), 0, 0), ((0, 0), 0, 0), ((0, 0), 0, 0), ((0, 0), 0, 0), ((0, 0), 0, 0), ((0, 0), 0, 0), ((0, 0), 0, 0)] : Cube)] : (List Cube)) 5) fun (r73 : (Header × Bool × Int)) =>
  obind (some cube_All) fun (r74 : Cube) =>
  obind (cover_Look n r74 ([([((0, 0), 0, 1), ((0, 0), 0, 0), ((0, 0), 0, 0), ((0, 0), 0, 0), ((0, 0), 0, 0), ((0, 0), 0, 0), ((0, 0), 0, 0), ((0, 0), 0, 0), ((0, 0), 0, 0), ((0, 0), 0, 0), ((0, 0), 0, 0), ((0, 0), 0, 0), ((0, 0), 0, 0), ((0, 0), 0, 0), ((0, 0), 0, 0), ((0, 0), 0, 0), ((0, 0), 0, 0), ((0, 0), 0, 0), ((0, 0), 0, 0), ((0, 0), 0, 0), ((0, 0), 0, 0), ((0, 0), 0, 0), ((0, 0), 0, 0), ((0, 0), 0, 0)] : Cube)] : (List Cube)) 2) fun (r75 : (Header × Bool × Int)) =>
  obind (some cube_All) fun (r76 : Cube) =>
  obind (cover_Look n r76 ([([((0, 0), 0, 1), ((0, 0), 0, 0), ((0, 0), 0, 0), ((0, 0), 0, 0), ((0, 0), 0, 0), ((0, 0), 0, 0), ((0, 0), 0, 0), ((0, 0), 0, 0), ((0, 0), 0, 0), ((0, 0), 0, 0), ((0, 0), 0, 0), ((0, 0), 0, 0), ((0, 0), 0, 0), ((0, 0), 0, 0), ((0, 0), 0, 0), ((0, 0), 0, 0), ((0, 0), 0, 0), ((0, 0), 0, 0), ((0, 0), 0, 0), ((0, 0), 0, 0), ((0, 0), 0, 0), ((0, 0), 0, 0), ((0, 0), 0, 0), ((0, 0), 0, 0)] : Cube)] : (List Cube)) 1) fun (r77 : (Header × Bool × Int)) =>
  bif ((!r73.2.1) == true) then
    bif ((r73.2.2 == 0) == true) then
      bif (r75.2.1 == true) then
        bif ((r75.2.2 == 0) == true) then
          bif (((List.getD r75.1 0 (0, 0)).2 == 1) == true) then
            bif ((r77.2.2 == 5) == true) then
              obind (some cube_All) fun (r78 : Cube) =>
              obind (cover_Bound n r78 ([([((0, 0), 0, 1), ((0, 0), 0, 0), ((0, 0), 0, 0), ((0, 0), 0, 0), ((0, 0), 0, 0), ((0, 0), 0, 0), ((0, 0), 0, 0), ((0, 0), 0, 0), ((0, 0), 0, 0), ((0, 0), 0, 0), ((0, 0), 0, 0), ((0, 0), 0, 0), ((0, 0), 0, 0), ((0, 0), 0, 0), ((0, 0), 0, 0), ((0, 0), 0, 0), ((0, 0), 0, 0), ((0, 0), 0, 0), ((0, 0), 0, 0), ((0, 0), 0, 0), ((0, 0), 0, 0), ((0, 0), 0, 0), ((0, 0), 0, 0), ((0, 0), 0, 0)] : Cube)] : (List Cube))) fun (r83 : Int) =>
              bif ((r83 == 2) == true) then
                obind (cover_Meets n ([((0, 1), 0, 1), ((0, 0), 0, 0), ((0, 0), 0, 0), ((0, 0), 0, 0), ((0, 0), 0, 0), ((0, 0), 0, 0), ((0, 0), 0, 0), ((0, 0), 0, 0), ((0, 0), 0, 0), ((0, 0), 0, 0), ((0, 0), 0, 0), ((0, 0), 0, 0), ((0, 0), 0, 0), ((0, 0), 0, 0), ((0, 0), 0, 0), ((0, 0), 0, 0), ((0, 0), 0, 0), ((0, 0), 0, 0), ((0, 0), 0, 0), ((0, 0), 0, 0), ((0, 0), 0, 0), ((0, 0), 0, 0), ((0, 0), 0, 0), ((0, 0), 0, 0)] : Cube) ([([((0, 0), 0, 1), ((0, 0), 0, 0), ((0, 0), 0, 0), ((0, 0), 0, 0), ((0, 0), 0, 0), ((0, 0), 0, 0), ((0, 0), 0, 0), ((0, 0), 0, 0), ((0, 0), 0, 0), ((0, 0), 0, 0), ((0, 0), 0, 0), ((0, 0), 0, 0), ((0, 0), 0, 0), ((0, 0), 0, 0), ((0, 0), 0, 0), ((0, 0), 0, 0), ((0, 0), 0, 0), ((0, 0), 0, 0), ((0, 0), 0, 0), ((0, 0), 0, 0), ((0, 0), 0, 0), ((0, 0), 0, 0), ((0, 0), 0, 0), ((0, 0), 0, 0)] : Cube), ([((0, 1), 0, 1), ((0, 0), 0, 0), ((0, 0), 0, 0), ((0, 0), 0, 0), ((0, 0), 0, 0), ((0, 0), 0, 0), ((0, 0), 0, 0), ((0, 0), 0, 0), ((0, 0), 0, 0), ((0, 0), 0, 0), ((0, 0), 0, 0), ((0, 0), 0, 0), ((0, 0), 0, 0), ((0, 0), 0, 0), ((0, 0), 0, 0), ((0, 0), 0, 0), ((0, 0), 0, 0), ((0, 0), 0, 0), ((0, 0), 0, 0), ((0, 0), 0, 0), ((0, 0), 0, 0), ((0, 0), 0, 0), ((0, 0), 0, 0), ((0, 0), 0, 0)] : Cube)] : (List Cube))) fun (r84 : (List Cube)) =>
                some (((List.length r84 : Nat) : Int) == 1)
              else
              some false
            else
            some false
          else
          some false
        else
        some false
      else
      some false
    else
    some false
  else
  some false

def law08_awake.τs : List Ty := []

def ref02_Less (a : Wide) (b : Wide) : Wide :=
  (bitsI .andNot .u64 a.1 b.1, bitsI .andNot .u64 a.2 b.2)

def ref05_Within (a : Tern) (b : Tern) : Bool :=
  let r87 : Wide := ref02_Less b.2 a.2
  let r88 : Bool := ref02_Zero r87
  bif (r88 == true) then
    let r89 : Wide := ref02_Xor a.1 b.1
    let r90 : Wide := ref02_And r89 b.2
    let r91 : Bool := ref02_Zero r90
    r91
  else
  false
def ref05_Within.o (a : Tern) (b : Tern) : Option Bool :=
  obind (some (ref02_Less b.2 a.2)) fun (r87 : Wide) =>
  obind (some (ref02_Zero r87)) fun (r88 : Bool) =>
  bif (r88 == true) then
    obind (some (ref02_Xor a.1 b.1)) fun (r89 : Wide) =>
    obind (some (ref02_And r89 b.2)) fun (r90 : Wide) =>
    obind (some (ref02_Zero r90)) fun (r91 : Bool) =>
    some r91
  else
  some false
theorem ref05_Within.o_eq (a : Tern) (b : Tern) : ref05_Within.o a b = some (ref05_Within a b) := by simp only [ref05_Within.o, ref05_Within, cond_some, obind_some]

def ref06_Within.s0 (n : Nat) (k0 : (Int → Option Bool)) (f : Int) (a_1 : Cube) (b_1 : Cube) : Option Bool :=
  bif decide (f < 24) then
    bif inRange f 24 then
    bif inRange f 24 then
    obind (some (ref05_Within (List.getD a_1 (Int.toNat f) ((0, 0), 0, 0)) (List.getD b_1 (Int.toNat f) ((0, 0), 0, 0)))) fun (r92 : Bool) =>
    bif !r92 then
      some false
    else
    k0 (IntKind.wrap .i64 (f + 1))
    else none
    else none
  else
  some true

def ref06_Within.l0 (n : Nat) (a_1 : Cube) (b_1 : Cube) : Nat → Int → Option Bool
  | 0, _ => none
  | m + 1, f => ref06_Within.s0 n (fun f' => ref06_Within.l0 n a_1 b_1 m f') f a_1 b_1

def ref06_Within.s (n : Nat) (k0 : (Int → Cube → Cube → Option Bool)) (a : Cube) (b : Cube) : Option Bool :=
  k0 0 a b

def ref06_Within (n : Nat) (a : Cube) (b : Cube) : Option Bool := ref06_Within.s n (fun f a_1 b_1 => ref06_Within.l0 n a_1 b_1 n f) a b

def ref06_Pick.s0 (n : Nat) (k0 : (Int → Header → Option Header)) (f : Int) (c_1 : Cube) (v2 : Header) (h : Header) : Option Header :=
  bif decide (f < 24) then
    bif inRange f 24 then
    obind (some (ref05_Clean (List.getD c_1 (Int.toNat f) ((0, 0), 0, 0)))) fun (r95 : Tern) =>
    bif inRange f 24 then
    k0 (IntKind.wrap .i64 (f + 1)) (List.set h (Int.toNat f) r95.1)
    else none
    else none
  else
  some h

def ref06_Pick.l0 (n : Nat) (c_1 : Cube) (v2 : Header) : Nat → Int → Header → Option Header
  | 0, _, _ => none
  | m + 1, f, h => ref06_Pick.s0 n (fun f' h' => ref06_Pick.l0 n c_1 v2 m f' h') f c_1 v2 h

def ref06_Pick.s (n : Nat) (k0 : (Int → Cube → Header → Header → Option Header)) (c : Cube) : Option Header :=
  k0 0 c (List.replicate 24 (0, 0)) ([(0, 0), (0, 0), (0, 0), (0, 0), (0, 0), (0, 0), (0, 0), (0, 0), (0, 0), (0, 0), (0, 0), (0, 0), (0, 0), (0, 0), (0, 0), (0, 0), (0, 0), (0, 0), (0, 0), (0, 0), (0, 0), (0, 0), (0, 0), (0, 0)] : Header)

def ref06_Pick (n : Nat) (c : Cube) : Option Header := ref06_Pick.s n (fun f c_1 v2 h => ref06_Pick.l0 n c_1 v2 n f h) c

def ref06_Clean.s0 (n : Nat) (k0 : (Int → Cube → Option Cube)) (f : Int) (c_1 : Cube) (v2 : Cube) : Option Cube :=
  bif decide (f < 24) then
    bif inRange f 24 then
    obind (some (ref05_Clean (List.getD c_1 (Int.toNat f) ((0, 0), 0, 0)))) fun (r97 : Tern) =>
    bif inRange f 24 then
    k0 (IntKind.wrap .i64 (f + 1)) (List.set c_1 (Int.toNat f) r97)
    else none
    else none
  else
  some c_1

def ref06_Clean.l0 (n : Nat) (v2 : Cube) : Nat → Int → Cube → Option Cube
  | 0, _, _ => none
  | m + 1, f, c_1 => ref06_Clean.s0 n (fun f' c_1' => ref06_Clean.l0 n v2 m f' c_1') f c_1 v2

def ref06_Clean.s (n : Nat) (k0 : (Int → Cube → Cube → Option Cube)) (c : Cube) : Option Cube :=
  k0 0 c (List.replicate 24 ((0, 0), 0, 0))

def ref06_Clean (n : Nat) (c : Cube) : Option Cube := ref06_Clean.s n (fun f c_1 v2 => ref06_Clean.l0 n v2 n f c_1) c

def ref05_Bits.s0 (n : Nat) (k0 : ((List Int) → Int → Option (List Int))) (out : (List Int)) (i : Int) (a_1 : Tern) (b_1 : Tern) : Option (List Int) :=
  bif decide (i ≥ 0) then
    obind (ref02_Has b_1.2 i) fun (r100 : Bool) =>
    bif (r100 == true) then
      obind (ref02_Has a_1.2 i) fun (r101 : Bool) =>
      bif !r101 then
        bif decide ((List.length out + List.length ([i] : (List Int))) * 8 ≤ 140737488355328) then
        k0 (out ++ ([i] : (List Int))) (IntKind.wrap .i64 (i - 1))
        else none
      else
      k0 out (IntKind.wrap .i64 (i - 1))
    else
    k0 out (IntKind.wrap .i64 (i - 1))
  else
  some out

def ref05_Bits.l0 (n : Nat) (a_1 : Tern) (b_1 : Tern) : Nat → (List Int) → Int → Option (List Int)
  | 0, _, _ => none
  | m + 1, out, i => ref05_Bits.s0 n (fun out' i' => ref05_Bits.l0 n a_1 b_1 m out' i') out i a_1 b_1

def ref05_Bits.s (n : Nat) (k0 : ((List Int) → Int → Tern → Tern → Option (List Int))) (a : Tern) (b : Tern) : Option (List Int) :=
  k0 ([] : (List Int)) 127 a b

def ref05_Bits (n : Nat) (a : Tern) (b : Tern) : Option (List Int) := ref05_Bits.s n (fun out i a_1 b_1 => ref05_Bits.l0 n a_1 b_1 n out i) a b

def ref05_Fix (t : Tern) (i : Int) (on : Bool) : Option Tern :=
  obind (some (ref05_Clean t)) fun (r104 : Tern) =>
  obind (ref02_Bit i) fun (r105 : Wide) =>
  obind (some (ref02_Or r104.2 r105)) fun (r106 : Wide) =>
  obind (some (ref02_Less r104.1 r105)) fun (r107 : Wide) =>
  bif on then
    obind (some (ref02_Or r107 r105)) fun (r108 : Wide) =>
    some (r108, r106)
  else
  some (r107, r106)

def ref07_List.s1 (n : Nat) (k1 : ((List Cube) → Int → Cube → Option (List Cube))) (k0 : ((List Cube) → Int → Cube → Cube → Cube → Option (List Cube))) (out_1 : (List Cube)) (f_1 : Int) (l : (List Int)) (i : Int) (a_2 : Cube) (b_2 : Cube) (left_1 : Cube) : Option (List Cube) :=
  bif decide (i < ((List.length l : Nat) : Int)) then
    bif inRange f_1 24 then
    bif inRange i (List.length l) then
    obind (ref02_Has (List.getD b_2 (Int.toNat f_1) ((0, 0), 0, 0)).1 (List.getD l (Int.toNat i) 0)) fun (r103 : Bool) =>
    bif inRange f_1 24 then
    bif inRange i (List.length l) then
    obind (ref05_Fix (List.getD left_1 (Int.toNat f_1) ((0, 0), 0, 0)) (List.getD l (Int.toNat i) 0) (!r103)) fun (r109 : Tern) =>
    bif inRange f_1 24 then
    let y0 : Cube := List.set left_1 (Int.toNat f_1) r109
    bif decide ((List.length out_1 + List.length ([y0] : (List Cube))) * 768 ≤ 140737488355328) then
    bif inRange f_1 24 then
    bif inRange i (List.length l) then
    obind (ref05_Fix (List.getD left_1 (Int.toNat f_1) ((0, 0), 0, 0)) (List.getD l (Int.toNat i) 0) r103) fun (r110 : Tern) =>
    bif inRange f_1 24 then
    k1 (out_1 ++ ([y0] : (List Cube))) (IntKind.wrap .i64 (i + 1)) (List.set left_1 (Int.toNat f_1) r110)
    else none
    else none
    else none
    else none
    else none
    else none
    else none
    else none
    else none
  else
  k0 out_1 (IntKind.wrap .i64 (f_1 + 1)) a_2 b_2 left_1

def ref07_List.l1 (n : Nat) (f_1 : Int) (l : (List Int)) (a_2 : Cube) (b_2 : Cube) (k0 : ((List Cube) → Int → Cube → Cube → Cube → Option (List Cube))) : Nat → (List Cube) → Int → Cube → Option (List Cube)
  | 0, _, _, _ => none
  | m + 1, out_1, i, left_1 => ref07_List.s1 n (fun out_1' i' left_1' => ref07_List.l1 n f_1 l a_2 b_2 k0 m out_1' i' left_1') k0 out_1 f_1 l i a_2 b_2 left_1

def ref07_List.s0 (n : Nat) (k1 : ((List Cube) → Int → (List Int) → Int → Cube → Cube → Cube → Option (List Cube))) (out : (List Cube)) (f : Int) (a_1 : Cube) (b_1 : Cube) (left : Cube) : Option (List Cube) :=
  bif decide (f < 24) then
    bif inRange f 24 then
    bif inRange f 24 then
    obind (ref05_Bits n (List.getD a_1 (Int.toNat f) ((0, 0), 0, 0)) (List.getD b_1 (Int.toNat f) ((0, 0), 0, 0))) fun (r102 : (List Int)) =>
    k1 out f r102 0 a_1 b_1 left
    else none
    else none
  else
  some out

def ref07_List.l0 (n : Nat) (a_1 : Cube) (b_1 : Cube) : Nat → (List Cube) → Int → Cube → Option (List Cube)
  | 0, _, _, _ => none
  | m + 1, out, f, left => ref07_List.s0 n (fun out_1' f_1' l' i' a_2' b_2' left_1' => ref07_List.l1 n f_1' l' a_2' b_2' (fun out'' f'' a_1'' b_1'' left'' => ref07_List.l0 n a_1'' b_1'' m out'' f'' left'') n out_1' i' left_1') out f a_1 b_1 left

def ref07_List.s (n : Nat) (k0 : ((List Cube) → Int → Cube → Cube → Cube → Option (List Cube))) (a : Cube) (b : Cube) : Option (List Cube) :=
  obind (ref06_Clean n a) fun (r98 : Cube) =>
  obind (ref06_Meet n a b) fun (r99 : (Cube × Bool)) =>
  bif !r99.2 then
    some ([r98] : (List Cube))
  else
  k0 ([] : (List Cube)) 0 a b r98

def ref07_List (n : Nat) (a : Cube) (b : Cube) : Option (List Cube) := ref07_List.s n (fun out f a_1 b_1 left => ref07_List.l0 n a_1 b_1 n out f left) a b

def ref08_look.s1 (n : Nat) (rec : Cube → (List Cube) → Int → Bool → Option (Header × Bool × Int)) (k1 : (Int → Int → Option (Header × Bool × Int))) (l_2 : (List Cube)) (left_2 : Int) (free_2 : Bool) (first_1 : Int) (parts : (List Cube)) (i_1 : Int) (v8_1 : Header) : Option (Header × Bool × Int) :=
  bif decide (i_1 < ((List.length parts : Nat) : Int)) then
    bif inRange i_1 (List.length parts) then
    bif ((decide (0 ≤ (IntKind.wrap .i64 (first_1 + 1)))) && (decide ((IntKind.wrap .i64 (first_1 + 1)) ≤ ((List.length l_2 : Nat) : Int)))) then
    obind (rec (List.getD parts (Int.toNat i_1) (List.replicate 24 ((0, 0), 0, 0))) (List.drop (Int.toNat (IntKind.wrap .i64 (first_1 + 1))) l_2) left_2 free_2) fun (r112 : (Header × Bool × Int)) =>
    bif (r112.2.1 == false) then
      bif decide (r112.2.2 < 0) then
        some (r112.1, r112.2.1, r112.2.2)
      else
      k1 r112.2.2 (IntKind.wrap .i64 (i_1 + 1))
    else
    some (r112.1, r112.2.1, r112.2.2)
    else none
    else none
  else
  some (([(0, 0), (0, 0), (0, 0), (0, 0), (0, 0), (0, 0), (0, 0), (0, 0), (0, 0), (0, 0), (0, 0), (0, 0), (0, 0), (0, 0), (0, 0), (0, 0), (0, 0), (0, 0), (0, 0), (0, 0), (0, 0), (0, 0), (0, 0), (0, 0)] : Header), false, left_2)

def ref08_look.l1 (n : Nat) (rec : Cube → (List Cube) → Int → Bool → Option (Header × Bool × Int)) (l_2 : (List Cube)) (free_2 : Bool) (first_1 : Int) (parts : (List Cube)) (v8_1 : Header) : Nat → Int → Int → Option (Header × Bool × Int)
  | 0, _, _ => none
  | m + 1, left_2, i_1 => ref08_look.s1 n rec (fun left_2' i_1' => ref08_look.l1 n rec l_2 free_2 first_1 parts v8_1 m left_2' i_1') l_2 left_2 free_2 first_1 parts i_1 v8_1

def ref08_look.s0 (n : Nat) (rec : Cube → (List Cube) → Int → Bool → Option (Header × Bool × Int)) (k0 : (Int → Int → Option (Header × Bool × Int))) (k1 : ((List Cube) → Int → Bool → Int → (List Cube) → Int → Header → Option (Header × Bool × Int))) (l_1 : (List Cube)) (left_1 : Int) (free_1 : Bool) (first : Int) (i : Int) (c_1 : Cube) (v8 : Header) : Option (Header × Bool × Int) :=
  bif decide (i < ((List.length l_1 : Nat) : Int)) then
    bif inRange i (List.length l_1) then
    obind (ref06_Within n c_1 (List.getD l_1 (Int.toNat i) (List.replicate 24 ((0, 0), 0, 0)))) fun (r93 : Bool) =>
    bif r93 then
      some (([(0, 0), (0, 0), (0, 0), (0, 0), (0, 0), (0, 0), (0, 0), (0, 0), (0, 0), (0, 0), (0, 0), (0, 0), (0, 0), (0, 0), (0, 0), (0, 0), (0, 0), (0, 0), (0, 0), (0, 0), (0, 0), (0, 0), (0, 0), (0, 0)] : Header), false, left_1)
    else
    bif inRange i (List.length l_1) then
    obind (ref06_Meet n c_1 (List.getD l_1 (Int.toNat i) (List.replicate 24 ((0, 0), 0, 0)))) fun (r94 : (Cube × Bool)) =>
    bif (r94.2 == true) then
      bif decide (first < 0) then
        k0 i (IntKind.wrap .i64 (i + 1))
      else
      k0 first (IntKind.wrap .i64 (i + 1))
    else
    k0 first (IntKind.wrap .i64 (i + 1))
    else none
    else none
  else
  bif decide (first < 0) then
    obind (ref06_Pick n c_1) fun (r96 : Header) =>
    some (r96, true, left_1)
  else
  bif inRange first (List.length l_1) then
  obind (ref07_List n c_1 (List.getD l_1 (Int.toNat first) (List.replicate 24 ((0, 0), 0, 0)))) fun (r111 : (List Cube)) =>
  k1 l_1 left_1 free_1 first r111 0 v8
  else none

def ref08_look.l0 (n : Nat) (rec : Cube → (List Cube) → Int → Bool → Option (Header × Bool × Int)) (l_1 : (List Cube)) (left_1 : Int) (free_1 : Bool) (c_1 : Cube) (v8 : Header) : Nat → Int → Int → Option (Header × Bool × Int)
  | 0, _, _ => none
  | m + 1, first, i => ref08_look.s0 n rec (fun first' i' => ref08_look.l0 n rec l_1 left_1 free_1 c_1 v8 m first' i') (fun l_2' left_2' free_2' first_1' parts' i_1' v8_1' => ref08_look.l1 n rec l_2' free_2' first_1' parts' v8_1' n left_2' i_1') l_1 left_1 free_1 first i c_1 v8

def ref08_look.s (n : Nat) (rec : Cube → (List Cube) → Int → Bool → Option (Header × Bool × Int)) (k0 : ((List Cube) → Int → Bool → Int → Int → Cube → Header → Option (Header × Bool × Int))) (c : Cube) (l : (List Cube)) (left : Int) (free : Bool) : Option (Header × Bool × Int) :=
  let y0 : Header := List.replicate 24 (0, 0)
  bif ((!free) == true) then
    bif decide (left < 1) then
      some (([(0, 0), (0, 0), (0, 0), (0, 0), (0, 0), (0, 0), (0, 0), (0, 0), (0, 0), (0, 0), (0, 0), (0, 0), (0, 0), (0, 0), (0, 0), (0, 0), (0, 0), (0, 0), (0, 0), (0, 0), (0, 0), (0, 0), (0, 0), (0, 0)] : Header), false, (-1))
    else
    bif !free then
      k0 l (IntKind.wrap .i64 (left - 1)) free (-1) 0 c y0
    else
    k0 l left free (-1) 0 c y0
  else
  bif !free then
    k0 l (IntKind.wrap .i64 (left - 1)) free (-1) 0 c y0
  else
  k0 l left free (-1) 0 c y0

def ref08_look (n : Nat) : Nat → Cube → (List Cube) → Int → Bool → Option (Header × Bool × Int)
  | 0, _, _, _, _ => none
  | k + 1, c, l, left, free => ref08_look.s n (ref08_look n k) (fun l_1 left_1 free_1 first i c_1 v8 => ref08_look.l0 n (ref08_look n k) l_1 left_1 free_1 c_1 v8 n first i) c l left free

def ref08_Look (n : Nat) (c : Cube) (l : (List Cube)) (most : Int) : Option (Header × Bool × Int) :=
  obind (ref08_look n n c l (maxI most 0) (decide (most ≥ 1099511627776))) fun (r113 : (Header × Bool × Int)) =>
  bif decide (r113.2.2 < 0) then
    some (([(0, 0), (0, 0), (0, 0), (0, 0), (0, 0), (0, 0), (0, 0), (0, 0), (0, 0), (0, 0), (0, 0), (0, 0), (0, 0), (0, 0), (0, 0), (0, 0), (0, 0), (0, 0), (0, 0), (0, 0), (0, 0), (0, 0), (0, 0), (0, 0)] : Header), false, 5)
  else
  some (r113.1, r113.2.1, 0)

def law08_CoverLooks (n : Nat) (c : Cube) (l : (List Cube)) (most : Int) : Option Bool :=
  obind (law08_light n c l most) fun (r20 : Bool) =>
  bif !r20 then
    obind (law08_awake n) fun (r85 : Bool) =>
    some r85
  else
  obind (cover_Look n c l most) fun (r86 : (Header × Bool × Int)) =>
  obind (ref08_Look n c l most) fun (r114 : (Header × Bool × Int)) =>
  bif ((beqT THeader r86.1 r114.1) == true) then
    bif ((r86.2.1 == r114.2.1) == true) then
      bif ((r86.2.2 == r114.2.2) == true) then
        obind (law08_awake n) fun (r115 : Bool) =>
        some r115
      else
      some false
    else
    some false
  else
  some false

def law08_CoverLooks.τs : List Ty := [TCube, (.slc TCube), (.int .i64)]

def law08_CoverEnough (n : Nat) (c : Cube) (l : (List Cube)) (more : Int) : Option Bool :=
  obind (cover_Bound n c l) fun (r116 : Int) =>
  bif ((decide (((List.length l : Nat) : Int) > 12)) == false) then
    bif decide (r116 > 16384) then
      obind (law08_awake n) fun (r117 : Bool) =>
      some r117
    else
    obind (cover_Look n c l r116) fun (r118 : (Header × Bool × Int)) =>
    obind (cover_Look n c l (IntKind.wrap .i64 (r116 + (IntKind.wrap .i64 more)))) fun (r119 : (Header × Bool × Int)) =>
    bif ((r118.2.2 == 0) == true) then
      bif ((r119.2.2 == 0) == true) then
        bif ((beqT THeader r118.1 r119.1) == true) then
          bif ((r118.2.1 == r119.2.1) == true) then
            obind (law08_awake n) fun (r120 : Bool) =>
            some r120
          else
          some false
        else
        some false
      else
      some false
    else
    some false
  else
  obind (law08_awake n) fun (r121 : Bool) =>
  some r121

def law08_CoverEnough.τs : List Ty := [TCube, (.slc TCube), (.int .u32)]

def slices_Equal_Cube.s0 (n : Nat) (k0 : (Int → Option Bool)) (s1_1 : (List Cube)) (s2_1 : (List Cube)) (v12 : Int) (v13 : Int) : Option Bool :=
  bif decide (v13 < v12) then
    bif inRange v13 (List.length s1_1) then
    bif inRange v13 (List.length s2_1) then
    bif !(beqT TCube (List.getD s1_1 (Int.toNat v13) (List.replicate 24 ((0, 0), 0, 0))) (List.getD s2_1 (Int.toNat v13) (List.replicate 24 ((0, 0), 0, 0)))) then
      some false
    else
    k0 (IntKind.wrap .i64 (v13 + 1))
    else none
    else none
  else
  some true

def slices_Equal_Cube.l0 (n : Nat) (s1_1 : (List Cube)) (s2_1 : (List Cube)) (v12 : Int) : Nat → Int → Option Bool
  | 0, _ => none
  | m + 1, v13 => slices_Equal_Cube.s0 n (fun v13' => slices_Equal_Cube.l0 n s1_1 s2_1 v12 m v13') s1_1 s2_1 v12 v13

def slices_Equal_Cube.s (n : Nat) (k0 : ((List Cube) → (List Cube) → Int → Int → Option Bool)) (s1 : (List Cube)) (s2 : (List Cube)) : Option Bool :=
  bif (((List.length s1 : Nat) : Int) != ((List.length s2 : Nat) : Int)) then
    some false
  else
  k0 s1 s2 ((List.length s1 : Nat) : Int) 0

def slices_Equal_Cube (n : Nat) (s1 : (List Cube)) (s2 : (List Cube)) : Option Bool := slices_Equal_Cube.s n (fun s1_1 s2_1 v12 v13 => slices_Equal_Cube.l0 n s1_1 s2_1 v12 n v13) s1 s2

def law08_CoverMeets (n : Nat) (c : Cube) (l : (List Cube)) : Option Bool :=
  bif decide (((List.length l : Nat) : Int) > 200) then
    obind (law08_awake n) fun (r122 : Bool) =>
    some r122
  else
  obind (cover_Meets n c l) fun (r123 : (List Cube)) =>
  obind (ref08_Meets n c l) fun (r124 : (List Cube)) =>
  obind (slices_Equal_Cube n r123 r124) fun (r125 : Bool) =>
  bif (r125 == true) then
    obind (cover_Bound n c l) fun (r126 : Int) =>
    obind (ref08_Bound n c l) fun (r127 : Int) =>
    bif ((r126 == r127) == true) then
      obind (law08_awake n) fun (r128 : Bool) =>
      some r128
    else
    some false
  else
  some false

def law08_CoverMeets.τs : List Ty := [TCube, (.slc TCube)]

def cube_Has.s0 (n : Nat) (k0 : (Int → Option Bool)) (v7 : Cube) (v8 : Int) (h_1 : Header) : Option Bool :=
  bif decide (v8 < 24) then
    bif inRange v8 24 then
    bif inRange v8 24 then
    obind (some (tern_Has (List.getD v7 (Int.toNat v8) ((0, 0), 0, 0)) (List.getD h_1 (Int.toNat v8) (0, 0)))) fun (r133 : Bool) =>
    bif !r133 then
      some false
    else
    k0 (IntKind.wrap .i64 (v8 + 1))
    else none
    else none
  else
  some true

def cube_Has.l0 (n : Nat) (v7 : Cube) (h_1 : Header) : Nat → Int → Option Bool
  | 0, _ => none
  | m + 1, v8 => cube_Has.s0 n (fun v8' => cube_Has.l0 n v7 h_1 m v8') v7 v8 h_1

def cube_Has.s (n : Nat) (k0 : (Cube → Int → Header → Option Bool)) (c : Cube) (h : Header) : Option Bool :=
  k0 c 0 h

def cube_Has (n : Nat) (c : Cube) (h : Header) : Option Bool := cube_Has.s n (fun v7 v8 h_1 => cube_Has.l0 n v7 h_1 n v8) c h

def law08_CoverTells_1 (n : Nat) (x : Cube) (c0 : Header) : Option Bool :=
  obind (cube_Has n x c0) fun (r135 : Bool) =>
  some r135

def slices_IndexFunc_Cube.s0 (n : Nat) (k0 : (Int → Option Int)) (s_1 : (List Cube)) (f_1 : (Cube → Option Bool)) (v7 : Int) (v8 : Int) : Option Int :=
  bif decide (v8 < v7) then
    bif inRange v8 (List.length s_1) then
    obind (f_1 (List.getD s_1 (Int.toNat v8) (List.replicate 24 ((0, 0), 0, 0)))) fun (r137 : Bool) =>
    bif r137 then
      some v8
    else
    k0 (IntKind.wrap .i64 (v8 + 1))
    else none
  else
  some (-1)

def slices_IndexFunc_Cube.l0 (n : Nat) (s_1 : (List Cube)) (f_1 : (Cube → Option Bool)) (v7 : Int) : Nat → Int → Option Int
  | 0, _ => none
  | m + 1, v8 => slices_IndexFunc_Cube.s0 n (fun v8' => slices_IndexFunc_Cube.l0 n s_1 f_1 v7 m v8') s_1 f_1 v7 v8

def slices_IndexFunc_Cube.s (n : Nat) (k0 : ((List Cube) → (Cube → Option Bool) → Int → Int → Option Int)) (s : (List Cube)) (f : (Cube → Option Bool)) : Option Int :=
  k0 s f ((List.length s : Nat) : Int) 0

def slices_IndexFunc_Cube (n : Nat) (s : (List Cube)) (f : (Cube → Option Bool)) : Option Int := slices_IndexFunc_Cube.s n (fun s_1 f_1 v7 v8 => slices_IndexFunc_Cube.l0 n s_1 f_1 v7 n v8) s f

def slices_ContainsFunc_Cube (n : Nat) (s : (List Cube)) (f : (Cube → Option Bool)) : Option Bool :=
  obind (slices_IndexFunc_Cube n s f) fun (r138 : Int) =>
  some (decide (r138 ≥ 0))

def law08_CoverTells_2 (n : Nat) (x : Cube) (c0 : Header) : Option Bool :=
  obind (cube_Has n x c0) fun (r142 : Bool) =>
  some r142

def law08_CoverTells (n : Nat) (c : Cube) (l : (List Cube)) (most : Int) (g : Header) : Option Bool :=
  obind (law08_light n c l most) fun (r129 : Bool) =>
  bif !r129 then
    obind (law08_awake n) fun (r130 : Bool) =>
    some r130
  else
  obind (cover_Look n c l most) fun (r131 : (Header × Bool × Int)) =>
  bif (r131.2.2 != 0) then
    obind (law08_awake n) fun (r132 : Bool) =>
    some r132
  else
  bif r131.2.1 then
    obind (cube_Has n c r131.1) fun (r134 : Bool) =>
    bif (r134 == true) then
      obind (slices_ContainsFunc_Cube n l (fun (x136 : Cube) => law08_CoverTells_1 n x136 r131.1)) fun (r139 : Bool) =>
      bif ((!r139) == true) then
        obind (law08_awake n) fun (r140 : Bool) =>
        some r140
      else
      some false
    else
    some false
  else
  obind (cube_Has n c g) fun (r141 : Bool) =>
  bif ((!r141) == false) then
    obind (slices_ContainsFunc_Cube n l (fun (x143 : Cube) => law08_CoverTells_2 n x143 g)) fun (r144 : Bool) =>
    bif (r144 == true) then
      obind (law08_awake n) fun (r145 : Bool) =>
      some r145
    else
    some false
  else
  obind (law08_awake n) fun (r146 : Bool) =>
  some r146

def law08_CoverTells.τs : List Ty := [TCube, (.slc TCube), (.int .i64), THeader]

def slices_IndexFunc_Rule.s0 (n : Nat) (k0 : (Int → Option Int)) (s_1 : (List Rule)) (f_1 : (Rule → Option Bool)) (v7 : Int) (v8 : Int) : Option Int :=
  bif decide (v8 < v7) then
    bif inRange v8 (List.length s_1) then
    obind (f_1 (List.getD s_1 (Int.toNat v8) (List.replicate 24 ((0, 0), 0, 0), ([] : (List Atom))))) fun (r147 : Bool) =>
    bif r147 then
      some v8
    else
    k0 (IntKind.wrap .i64 (v8 + 1))
    else none
  else
  some (-1)

def slices_IndexFunc_Rule.l0 (n : Nat) (s_1 : (List Rule)) (f_1 : (Rule → Option Bool)) (v7 : Int) : Nat → Int → Option Int
  | 0, _ => none
  | m + 1, v8 => slices_IndexFunc_Rule.s0 n (fun v8' => slices_IndexFunc_Rule.l0 n s_1 f_1 v7 m v8') s_1 f_1 v7 v8

def slices_IndexFunc_Rule.s (n : Nat) (k0 : ((List Rule) → (Rule → Option Bool) → Int → Int → Option Int)) (s : (List Rule)) (f : (Rule → Option Bool)) : Option Int :=
  k0 s f ((List.length s : Nat) : Int) 0

def slices_IndexFunc_Rule (n : Nat) (s : (List Rule)) (f : (Rule → Option Bool)) : Option Int := slices_IndexFunc_Rule.s n (fun s_1 f_1 v7 v8 => slices_IndexFunc_Rule.l0 n s_1 f_1 v7 n v8) s f

def slices_ContainsFunc_Rule (n : Nat) (s : (List Rule)) (f : (Rule → Option Bool)) : Option Bool :=
  obind (slices_IndexFunc_Rule n s f) fun (r148 : Int) =>
  some (decide (r148 ≥ 0))

def plain_Atoms (l : (List Atom)) : Bool :=
  decide (((List.length l : Nat) : Int) ≤ 12)

def plain_Rules_1_c (r : Rule) : Bool :=
  let r149 : Bool := plain_Atoms r.2
  !r149

def plain_Rules (n : Nat) (l : (List Rule)) (many : Int) : Option Bool :=
  bif ((decide (((List.length l : Nat) : Int) ≤ many)) == true) then
    obind (slices_ContainsFunc_Rule n l (fun (x150 : Rule) => some (plain_Rules_1_c x150))) fun (r151 : Bool) =>
    some (!r151)
  else
  some false

def law49_light (n : Nat) (f : Flat) (most : Int) : Option Bool :=
  obind (plain_Rules n f.1 8) fun (r152 : Bool) =>
  bif (r152 == true) then
    some (decide (most ≤ 300))
  else
  some false

def law49_light.τs : List Ty := [TFlat, (.int .i64)]

def slice_heap_full (p : Heap) : Bool :=
  decide (((List.length p.1 : Nat) : Int) > p.2)

def slice_heap_less.z1 (n : Nat) (k0 : ((List Cube) → Int → Int → Heap → Cube → Bool → Option (Heap × Bool))) (v16_1 : (List Cube)) (v17_1 : Int) (v18_1 : Int) (p_2 : Heap) (c_2 : Cube) (v4_1 : Bool) : Option (Heap × Bool) :=
  k0 v16_1 v17_1 (IntKind.wrap .i64 (v18_1 + 1)) p_2 c_2 v4_1

def slice_heap_less.s1 (n : Nat) (k1 : (Heap → Option (Heap × Bool))) (v16_1 : (List Cube)) (v17_1 : Int) (v18_1 : Int) (p_2 : Heap) (c_2 : Cube) (v4_1 : Bool) (x : Cube) : Option (Heap × Bool) :=
  bif decide ((List.length p_2.1 + List.length ([x] : (List Cube))) * 768 ≤ 140737488355328) then
  let y0 : (List Cube) := (p_2.1 ++ ([x] : (List Cube)))
  obind (some (slice_heap_full (y0, p_2.2))) fun (r157 : Bool) =>
  bif r157 then
    some ((y0, p_2.2), false)
  else
  k1 (y0, p_2.2)
  else none

def slice_heap_less.l1 (n : Nat) (v16_1 : (List Cube)) (v17_1 : Int) (v18_1 : Int) (c_2 : Cube) (v4_1 : Bool) (k0 : ((List Cube) → Int → Int → Heap → Cube → Bool → Option (Heap × Bool))) : (List Cube) → Heap → Option (Heap × Bool)
  | [], p_2 => slice_heap_less.z1 n k0 v16_1 v17_1 v18_1 p_2 c_2 v4_1
  | x :: xs, p_2 => slice_heap_less.s1 n (fun p_2' => slice_heap_less.l1 n v16_1 v17_1 v18_1 c_2 v4_1 k0 xs p_2') v16_1 v17_1 v18_1 p_2 c_2 v4_1 x

def slice_heap_less.s0 (n : Nat) (k1 : ((List Cube) → (List Cube) → Int → Int → Heap → Cube → Bool → Option (Heap × Bool))) (v16 : (List Cube)) (v17 : Int) (v18 : Int) (p_1 : Heap) (c_1 : Cube) (v4 : Bool) : Option (Heap × Bool) :=
  bif decide (v18 < v17) then
    bif inRange v18 (List.length v16) then
    obind (carve_Parts n (List.getD v16 (Int.toNat v18) (List.replicate 24 ((0, 0), 0, 0))) c_1) fun (r156 : (List Cube)) =>
    k1 r156 v16 v17 v18 p_1 c_1 v4
    else none
  else
  some (p_1, true)

def slice_heap_less.l0 (n : Nat) (v16 : (List Cube)) (v17 : Int) (c_1 : Cube) (v4 : Bool) : Nat → Int → Heap → Option (Heap × Bool)
  | 0, _, _ => none
  | m + 1, v18, p_1 => slice_heap_less.s0 n (fun xs' v16_1' v17_1' v18_1' p_2' c_2' v4_1' => slice_heap_less.l1 n v16_1' v17_1' v18_1' c_2' v4_1' (fun v16'' v17'' v18'' p_1'' c_1'' v4'' => slice_heap_less.l0 n v16'' v17'' c_1'' v4'' m v18'' p_1'') xs' p_2') v16 v17 v18 p_1 c_1 v4

def slice_heap_less.s (n : Nat) (k0 : ((List Cube) → Int → Int → Heap → Cube → Bool → Option (Heap × Bool))) (p : Heap) (c : Cube) : Option (Heap × Bool) :=
  k0 p.1 ((List.length p.1 : Nat) : Int) 0 (([] : (List Cube)), p.2) c false

def slice_heap_less (n : Nat) (p : Heap) (c : Cube) : Option (Heap × Bool) := slice_heap_less.s n (fun v16 v17 v18 p_1 c_1 v4 => slice_heap_less.l0 n v16 v17 c_1 v4 n v18 p_1) p c

def slice_Rule.s0 (n : Nat) (k0 : (Int → Heap → Option ((List Cube) × Int))) (v36 : (List Rule)) (v37 : Int) (v38 : Int) (v30 : Heap) : Option ((List Cube) × Int) :=
  bif decide (v38 < v37) then
    bif inRange v38 (List.length v36) then
    obind (slice_heap_less n v30 (List.getD v36 (Int.toNat v38) (List.replicate 24 ((0, 0), 0, 0), ([] : (List Atom)))).1) fun (r158 : (Heap × Bool)) =>
    bif !r158.2 then
      some (([] : (List Cube)), 5)
    else
    k0 (IntKind.wrap .i64 (v38 + 1)) r158.1
    else none
  else
  some (v30.1, 0)

def slice_Rule.l0 (n : Nat) (v36 : (List Rule)) (v37 : Int) : Nat → Int → Heap → Option ((List Cube) × Int)
  | 0, _, _ => none
  | m + 1, v38, v30 => slice_Rule.s0 n (fun v38' v30' => slice_Rule.l0 n v36 v37 m v38' v30') v36 v37 v38 v30

def slice_Rule.s (n : Nat) (k0 : ((List Rule) → Int → Int → Heap → Option ((List Cube) × Int))) (f : Flat) (i : Int) (most : Int) : Option ((List Cube) × Int) :=
  bif ((decide (i < 0)) == false) then
    bif decide (i ≥ ((List.length f.1 : Nat) : Int)) then
      some (([] : (List Cube)), 6)
    else
    bif inRange i (List.length f.1) then
    obind (cube_Clean n (List.getD f.1 (Int.toNat i) (List.replicate 24 ((0, 0), 0, 0), ([] : (List Atom)))).1) fun (r154 : Cube) =>
    obind (some (slice_heap_full (([r154] : (List Cube)), most))) fun (r155 : Bool) =>
    bif r155 then
      some (([] : (List Cube)), 5)
    else
    bif ((decide (0 ≤ i)) && (decide (i ≤ ((List.length f.1 : Nat) : Int)))) then
    let y0 : (List Rule) := sub f.1 0 (Int.toNat i)
    k0 y0 ((List.length y0 : Nat) : Int) 0 (([r154] : (List Cube)), most)
    else none
    else none
  else
  some (([] : (List Cube)), 6)

def slice_Rule (n : Nat) (f : Flat) (i : Int) (most : Int) : Option ((List Cube) × Int) := slice_Rule.s n (fun v36 v37 v38 v30 => slice_Rule.l0 n v36 v37 n v38 v30) f i most

def slice_All.s0 (n : Nat) (k0 : ((List (List Cube)) → Int → Option ((List (List Cube)) × Int))) (most_1 : Int) (out : (List (List Cube))) (v12 : Int) (v13 : Int) (f_1 : Flat) : Option ((List (List Cube)) × Int) :=
  bif decide (v13 < v12) then
    obind (slice_Rule n f_1 v13 most_1) fun (r159 : ((List Cube) × Int)) =>
    bif (r159.2 != 0) then
      some (([] : (List (List Cube))), r159.2)
    else
    bif decide ((List.length out + List.length ([r159.1] : (List (List Cube)))) * 24 ≤ 140737488355328) then
    k0 (out ++ ([r159.1] : (List (List Cube)))) (IntKind.wrap .i64 (v13 + 1))
    else none
  else
  some (out, 0)

def slice_All.l0 (n : Nat) (most_1 : Int) (v12 : Int) (f_1 : Flat) : Nat → (List (List Cube)) → Int → Option ((List (List Cube)) × Int)
  | 0, _, _ => none
  | m + 1, out, v13 => slice_All.s0 n (fun out' v13' => slice_All.l0 n most_1 v12 f_1 m out' v13') most_1 out v12 v13 f_1

def slice_All.s (n : Nat) (k0 : (Int → (List (List Cube)) → Int → Int → Flat → Option ((List (List Cube)) × Int))) (f : Flat) (most : Int) : Option ((List (List Cube)) × Int) :=
  k0 most ([] : (List (List Cube))) ((List.length f.1 : Nat) : Int) 0 f

def slice_All (n : Nat) (f : Flat) (most : Int) : Option ((List (List Cube)) × Int) := slice_All.s n (fun most_1 out v12 v13 f_1 => slice_All.l0 n most_1 v12 f_1 n out v13) f most

def slice_Place_1 (n : Nat) (c : Cube) (c0 : Header) : Option Bool :=
  obind (cube_Has n c c0) fun (r163 : Bool) =>
  some r163

def slice_Place.s0 (n : Nat) (k0 : (Int → Option (Int × Int × Bool))) (v10 : (List (List Cube))) (v11 : Int) (v12 : Int) (h_1 : Header) : Option (Int × Int × Bool) :=
  bif decide (v12 < v11) then
    bif inRange v12 (List.length v10) then
    obind (slices_IndexFunc_Cube n (List.getD v10 (Int.toNat v12) ([] : (List Cube))) (fun (x164 : Cube) => slice_Place_1 n x164 h_1)) fun (r165 : Int) =>
    bif decide (r165 < 0) then
      k0 (IntKind.wrap .i64 (v12 + 1))
    else
    some (v12, r165, true)
    else none
  else
  some (0, 0, false)

def slice_Place.l0 (n : Nat) (v10 : (List (List Cube))) (v11 : Int) (h_1 : Header) : Nat → Int → Option (Int × Int × Bool)
  | 0, _ => none
  | m + 1, v12 => slice_Place.s0 n (fun v12' => slice_Place.l0 n v10 v11 h_1 m v12') v10 v11 v12 h_1

def slice_Place.s (n : Nat) (k0 : ((List (List Cube)) → Int → Int → Header → Option (Int × Int × Bool))) (l : (List (List Cube))) (h : Header) : Option (Int × Int × Bool) :=
  k0 l ((List.length l : Nat) : Int) 0 h

def slice_Place (n : Nat) (l : (List (List Cube))) (h : Header) : Option (Int × Int × Bool) := slice_Place.s n (fun v10 v11 v12 h_1 => slice_Place.l0 n v10 v11 h_1 n v12) l h

def law49_awake (n : Nat) : Option Bool :=
  let y0 : Cube := List.replicate 24 ((0, 0), 0, 0)
  obind (slice_All n (([(([((0, 0), 0, 3), ((0, 0), 0, 0), ((0, 0), 0, 0), ((0, 0), 0, 0), ((0, 0), 0, 0), ((0, 0), 0, 0), ((0, 0), 0, 0), ((0, 0), 0, 0), ((0, 0), 0, 0), ((0, 0), 0, 0), ((0, 0), 0, 0), ((0, 0), 0, 0), ((0, 0), 0, 0), ((0, 0), 0, 0), ((0, 0), 0, 0), ((0, 0), 0, 0), ((0, 0), 0, 0), ((0, 0), 0, 0), ((0, 0), 0, 0), ((0, 0), 0, 0), ((0, 0), 0, 0), ((0, 0), 0, 0), ((0, 0), 0, 0), ((0, 0), 0, 0)] : Cube), ([] : (List Atom))), (y0, ([] : (List Atom)))] : (List Rule)), ([] : (List Group))) 9) fun (r160 : ((List (List Cube)) × Int)) =>
  obind (slice_Rule n (([(([((0, 0), 0, 3), ((0, 0), 0, 0), ((0, 0), 0, 0), ((0, 0), 0, 0), ((0, 0), 0, 0), ((0, 0), 0, 0), ((0, 0), 0, 0), ((0, 0), 0, 0), ((0, 0), 0, 0), ((0, 0), 0, 0), ((0, 0), 0, 0), ((0, 0), 0, 0), ((0, 0), 0, 0), ((0, 0), 0, 0), ((0, 0), 0, 0), ((0, 0), 0, 0), ((0, 0), 0, 0), ((0, 0), 0, 0), ((0, 0), 0, 0), ((0, 0), 0, 0), ((0, 0), 0, 0), ((0, 0), 0, 0), ((0, 0), 0, 0), ((0, 0), 0, 0)] : Cube), ([] : (List Atom))), (y0, ([] : (List Atom)))] : (List Rule)), ([] : (List Group))) 1 1) fun (r161 : ((List Cube) × Int)) =>
  obind (slice_Rule n (([(([((0, 0), 0, 3), ((0, 0), 0, 0), ((0, 0), 0, 0), ((0, 0), 0, 0), ((0, 0), 0, 0), ((0, 0), 0, 0), ((0, 0), 0, 0), ((0, 0), 0, 0), ((0, 0), 0, 0), ((0, 0), 0, 0), ((0, 0), 0, 0), ((0, 0), 0, 0), ((0, 0), 0, 0), ((0, 0), 0, 0), ((0, 0), 0, 0), ((0, 0), 0, 0), ((0, 0), 0, 0), ((0, 0), 0, 0), ((0, 0), 0, 0), ((0, 0), 0, 0), ((0, 0), 0, 0), ((0, 0), 0, 0), ((0, 0), 0, 0), ((0, 0), 0, 0)] : Cube), ([] : (List Atom))), (y0, ([] : (List Atom)))] : (List Rule)), ([] : (List Group))) 2 9) fun (r162 : ((List Cube) × Int)) =>
  obind (slice_Place n r160.1 ([(0, 1), (0, 0), (0, 0), (0, 0), (0, 0), (0, 0), (0, 0), (0, 0), (0, 0), (0, 0), (0, 0), (0, 0), (0, 0), (0, 0), (0, 0), (0, 0), (0, 0), (0, 0), (0, 0), (0, 0), (0, 0), (0, 0), (0, 0), (0, 0)] : Header)) fun (r166 : (Int × Int × Bool)) =>
  bif ((r160.2 == 0) == true) then
    bif ((((List.length r160.1 : Nat) : Int) == 2) == true) then
      bif inRange 1 (List.length r160.1) then
      bif ((((List.length (List.getD r160.1 1 ([] : (List Cube))) : Nat) : Int) == 2) == true) then
        bif ((r161.2 == 5) == true) then
          bif ((r162.2 == 6) == true) then
            bif ((r166.1 == 1) == true) then
              bif ((r166.2.1 == 1) == true) then
                some r166.2.2
              else
              some false
            else
            some false
          else
          some false
        else
        some false
      else
      some false
      else none
    else
    some false
  else
  some false

def law49_awake.τs : List Ty := []

def ref49_Less.s0 (n : Nat) (k0 : ((List Cube) → Int → Option (List Cube))) (l_1 : (List Cube)) (out : (List Cube)) (i : Int) (c_1 : Cube) : Option (List Cube) :=
  bif decide (i < ((List.length l_1 : Nat) : Int)) then
    bif inRange i (List.length l_1) then
    obind (ref07_List n (List.getD l_1 (Int.toNat i) (List.replicate 24 ((0, 0), 0, 0))) c_1) fun (r170 : (List Cube)) =>
    bif decide ((List.length out + List.length r170) * 768 ≤ 140737488355328) then
    k0 (out ++ r170) (IntKind.wrap .i64 (i + 1))
    else none
    else none
  else
  some out

def ref49_Less.l0 (n : Nat) (l_1 : (List Cube)) (c_1 : Cube) : Nat → (List Cube) → Int → Option (List Cube)
  | 0, _, _ => none
  | m + 1, out, i => ref49_Less.s0 n (fun out' i' => ref49_Less.l0 n l_1 c_1 m out' i') l_1 out i c_1

def ref49_Less.s (n : Nat) (k0 : ((List Cube) → (List Cube) → Int → Cube → Option (List Cube))) (l : (List Cube)) (c : Cube) : Option (List Cube) :=
  k0 l ([] : (List Cube)) 0 c

def ref49_Less (n : Nat) (l : (List Cube)) (c : Cube) : Option (List Cube) := ref49_Less.s n (fun l_1 out i c_1 => ref49_Less.l0 n l_1 c_1 n out i) l c

def ref49_Rule.s0 (n : Nat) (k0 : ((List Cube) → Int → Option ((List Cube) × Int))) (i_1 : Int) (most_1 : Int) (l : (List Cube)) (k9 : Int) (f_1 : Flat) : Option ((List Cube) × Int) :=
  bif decide (k9 < i_1) then
    bif inRange k9 (List.length f_1.1) then
    obind (ref49_Less n l (List.getD f_1.1 (Int.toNat k9) (List.replicate 24 ((0, 0), 0, 0), ([] : (List Atom)))).1) fun (r171 : (List Cube)) =>
    bif decide (((List.length r171 : Nat) : Int) > most_1) then
      some (([] : (List Cube)), 5)
    else
    k0 r171 (IntKind.wrap .i64 (k9 + 1))
    else none
  else
  some (l, 0)

def ref49_Rule.l0 (n : Nat) (i_1 : Int) (most_1 : Int) (f_1 : Flat) : Nat → (List Cube) → Int → Option ((List Cube) × Int)
  | 0, _, _ => none
  | m + 1, l, k9 => ref49_Rule.s0 n (fun l' k9' => ref49_Rule.l0 n i_1 most_1 f_1 m l' k9') i_1 most_1 l k9 f_1

def ref49_Rule.s (n : Nat) (k0 : (Int → Int → (List Cube) → Int → Flat → Option ((List Cube) × Int))) (f : Flat) (i : Int) (most : Int) : Option ((List Cube) × Int) :=
  bif ((decide (i < 0)) == false) then
    bif decide (i ≥ ((List.length f.1 : Nat) : Int)) then
      some (([] : (List Cube)), 6)
    else
    bif inRange i (List.length f.1) then
    obind (ref06_Clean n (List.getD f.1 (Int.toNat i) (List.replicate 24 ((0, 0), 0, 0), ([] : (List Atom)))).1) fun (r169 : Cube) =>
    bif decide (((List.length ([r169] : (List Cube)) : Nat) : Int) > most) then
      some (([] : (List Cube)), 5)
    else
    k0 i most ([r169] : (List Cube)) 0 f
    else none
  else
  some (([] : (List Cube)), 6)

def ref49_Rule (n : Nat) (f : Flat) (i : Int) (most : Int) : Option ((List Cube) × Int) := ref49_Rule.s n (fun i_1 most_1 l k9 f_1 => ref49_Rule.l0 n i_1 most_1 f_1 n l k9) f i most

def ref49_All.s0 (n : Nat) (k0 : ((List (List Cube)) → Int → Option ((List (List Cube)) × Int))) (most_1 : Int) (out : (List (List Cube))) (i : Int) (f_1 : Flat) : Option ((List (List Cube)) × Int) :=
  bif decide (i < ((List.length f_1.1 : Nat) : Int)) then
    obind (ref49_Rule n f_1 i most_1) fun (r174 : ((List Cube) × Int)) =>
    bif (r174.2 != 0) then
      some (([] : (List (List Cube))), r174.2)
    else
    bif decide ((List.length out + List.length ([r174.1] : (List (List Cube)))) * 24 ≤ 140737488355328) then
    k0 (out ++ ([r174.1] : (List (List Cube)))) (IntKind.wrap .i64 (i + 1))
    else none
  else
  some (out, 0)

def ref49_All.l0 (n : Nat) (most_1 : Int) (f_1 : Flat) : Nat → (List (List Cube)) → Int → Option ((List (List Cube)) × Int)
  | 0, _, _ => none
  | m + 1, out, i => ref49_All.s0 n (fun out' i' => ref49_All.l0 n most_1 f_1 m out' i') most_1 out i f_1

def ref49_All.s (n : Nat) (k0 : (Int → (List (List Cube)) → Int → Flat → Option ((List (List Cube)) × Int))) (f : Flat) (most : Int) : Option ((List (List Cube)) × Int) :=
  k0 most ([] : (List (List Cube))) 0 f

def ref49_All (n : Nat) (f : Flat) (most : Int) : Option ((List (List Cube)) × Int) := ref49_All.s n (fun most_1 out i f_1 => ref49_All.l0 n most_1 f_1 n out i) f most

def slices_EqualFunc_LCube.s0 (n : Nat) (k0 : (Int → Option Bool)) (s2_1 : (List (List Cube))) (eq_1 : (((List Cube) × (List Cube)) → Option Bool)) (v15 : (List (List Cube))) (v16 : Int) (v17 : Int) : Option Bool :=
  bif decide (v17 < v16) then
    bif inRange v17 (List.length v15) then
    bif inRange v17 (List.length s2_1) then
    obind (eq_1 ((List.getD v15 (Int.toNat v17) ([] : (List Cube))), (List.getD s2_1 (Int.toNat v17) ([] : (List Cube))))) fun (r177 : Bool) =>
    bif !r177 then
      some false
    else
    k0 (IntKind.wrap .i64 (v17 + 1))
    else none
    else none
  else
  some true

def slices_EqualFunc_LCube.l0 (n : Nat) (s2_1 : (List (List Cube))) (eq_1 : (((List Cube) × (List Cube)) → Option Bool)) (v15 : (List (List Cube))) (v16 : Int) : Nat → Int → Option Bool
  | 0, _ => none
  | m + 1, v17 => slices_EqualFunc_LCube.s0 n (fun v17' => slices_EqualFunc_LCube.l0 n s2_1 eq_1 v15 v16 m v17') s2_1 eq_1 v15 v16 v17

def slices_EqualFunc_LCube.s (n : Nat) (k0 : ((List (List Cube)) → (((List Cube) × (List Cube)) → Option Bool) → (List (List Cube)) → Int → Int → Option Bool)) (s1 : (List (List Cube))) (s2 : (List (List Cube))) (eq : (((List Cube) × (List Cube)) → Option Bool)) : Option Bool :=
  bif (((List.length s1 : Nat) : Int) != ((List.length s2 : Nat) : Int)) then
    some false
  else
  k0 s2 eq s1 ((List.length s1 : Nat) : Int) 0

def slices_EqualFunc_LCube (n : Nat) (s1 : (List (List Cube))) (s2 : (List (List Cube))) (eq : (((List Cube) × (List Cube)) → Option Bool)) : Option Bool := slices_EqualFunc_LCube.s n (fun s2_1 eq_1 v15 v16 v17 => slices_EqualFunc_LCube.l0 n s2_1 eq_1 v15 v16 n v17) s1 s2 eq

def law49_same_c (n : Nat) (a : (List Cube)) (b : (List Cube)) : Option Bool :=
  obind (slices_Equal_Cube n a b) fun (r178 : Bool) =>
  some r178

def ref05_Has (t : Tern) (v : Wide) : Bool :=
  let r182 : Wide := ref02_Xor t.1 v
  let r183 : Wide := ref02_And r182 t.2
  let r184 : Bool := ref02_Zero r183
  r184

def ref06_Has.s0 (n : Nat) (k0 : (Int → Option Bool)) (f : Int) (c_1 : Cube) (h_1 : Header) : Option Bool :=
  bif decide (f < 24) then
    bif inRange f 24 then
    bif inRange f 24 then
    obind (some (ref05_Has (List.getD c_1 (Int.toNat f) ((0, 0), 0, 0)) (List.getD h_1 (Int.toNat f) (0, 0)))) fun (r185 : Bool) =>
    bif !r185 then
      some false
    else
    k0 (IntKind.wrap .i64 (f + 1))
    else none
    else none
  else
  some true

def ref06_Has.l0 (n : Nat) (c_1 : Cube) (h_1 : Header) : Nat → Int → Option Bool
  | 0, _ => none
  | m + 1, f => ref06_Has.s0 n (fun f' => ref06_Has.l0 n c_1 h_1 m f') f c_1 h_1

def ref06_Has.s (n : Nat) (k0 : (Int → Cube → Header → Option Bool)) (c : Cube) (h : Header) : Option Bool :=
  k0 0 c h

def ref06_Has (n : Nat) (c : Cube) (h : Header) : Option Bool := ref06_Has.s n (fun f c_1 h_1 => ref06_Has.l0 n c_1 h_1 n f) c h

def ref49_Place.s1 (n : Nat) (k1 : (Int → Option (Int × Int × Bool))) (k0 : ((List (List Cube)) → Int → Header → Option (Int × Int × Bool))) (l_2 : (List (List Cube))) (i_1 : Int) (j : Int) (h_2 : Header) : Option (Int × Int × Bool) :=
  bif inRange i_1 (List.length l_2) then
  bif decide (j < ((List.length (List.getD l_2 (Int.toNat i_1) ([] : (List Cube))) : Nat) : Int)) then
    bif inRange i_1 (List.length l_2) then
    let y0 : (List Cube) := List.getD l_2 (Int.toNat i_1) ([] : (List Cube))
    bif inRange j (List.length y0) then
    obind (ref06_Has n (List.getD y0 (Int.toNat j) (List.replicate 24 ((0, 0), 0, 0))) h_2) fun (r186 : Bool) =>
    bif r186 then
      some (i_1, j, true)
    else
    k1 (IntKind.wrap .i64 (j + 1))
    else none
    else none
  else
  k0 l_2 (IntKind.wrap .i64 (i_1 + 1)) h_2
  else none

def ref49_Place.l1 (n : Nat) (l_2 : (List (List Cube))) (i_1 : Int) (h_2 : Header) (k0 : ((List (List Cube)) → Int → Header → Option (Int × Int × Bool))) : Nat → Int → Option (Int × Int × Bool)
  | 0, _ => none
  | m + 1, j => ref49_Place.s1 n (fun j' => ref49_Place.l1 n l_2 i_1 h_2 k0 m j') k0 l_2 i_1 j h_2

def ref49_Place.s0 (n : Nat) (k1 : ((List (List Cube)) → Int → Int → Header → Option (Int × Int × Bool))) (l_1 : (List (List Cube))) (i : Int) (h_1 : Header) : Option (Int × Int × Bool) :=
  bif decide (i < ((List.length l_1 : Nat) : Int)) then
    k1 l_1 i 0 h_1
  else
  some (0, 0, false)

def ref49_Place.l0 (n : Nat) (l_1 : (List (List Cube))) (h_1 : Header) : Nat → Int → Option (Int × Int × Bool)
  | 0, _ => none
  | m + 1, i => ref49_Place.s0 n (fun l_2' i_1' j' h_2' => ref49_Place.l1 n l_2' i_1' h_2' (fun l_1'' i'' h_1'' => ref49_Place.l0 n l_1'' h_1'' m i'') n j') l_1 i h_1

def ref49_Place.s (n : Nat) (k0 : ((List (List Cube)) → Int → Header → Option (Int × Int × Bool))) (l : (List (List Cube))) (h : Header) : Option (Int × Int × Bool) :=
  k0 l 0 h

def ref49_Place (n : Nat) (l : (List (List Cube))) (h : Header) : Option (Int × Int × Bool) := ref49_Place.s n (fun l_1 i h_1 => ref49_Place.l0 n l_1 h_1 n i) l h

def law49_SliceTells (n : Nat) (f : Flat) (i : Int) (most : Int) (h : Header) : Option Bool :=
  obind (law49_light n f most) fun (r153 : Bool) =>
  bif !r153 then
    obind (law49_awake n) fun (r167 : Bool) =>
    some r167
  else
  obind (slice_Rule n f i most) fun (r168 : ((List Cube) × Int)) =>
  obind (ref49_Rule n f i most) fun (r172 : ((List Cube) × Int)) =>
  obind (slice_All n f most) fun (r173 : ((List (List Cube)) × Int)) =>
  obind (ref49_All n f most) fun (r175 : ((List (List Cube)) × Int)) =>
  obind (slices_Equal_Cube n r168.1 r172.1) fun (r176 : Bool) =>
  bif ((!r176) == false) then
    bif ((r168.2 != r172.2) == false) then
      obind (slices_EqualFunc_LCube n r173.1 r175.1 (fun (x179 : ((List Cube) × (List Cube))) => law49_same_c n x179.1 x179.2)) fun (r180 : Bool) =>
      bif ((!r180) == false) then
        bif (r173.2 != r175.2) then
          some false
        else
        obind (slice_Place n r173.1 h) fun (r181 : (Int × Int × Bool)) =>
        obind (ref49_Place n r175.1 h) fun (r187 : (Int × Int × Bool)) =>
        bif ((r181.1 == r187.1) == true) then
          bif ((r181.2.1 == r187.2.1) == true) then
            bif ((r181.2.2 == r187.2.2) == true) then
              obind (law49_awake n) fun (r188 : Bool) =>
              some r188
            else
            some false
          else
          some false
        else
        some false
      else
      some false
    else
    some false
  else
  some false

def law49_SliceTells.τs : List Ty := [TFlat, (.int .i64), (.int .i64), THeader]

def find_has_1 (n : Nat) (r : Rule) (c0 : Header) : Option Bool :=
  obind (cube_Has n r.1 c0) fun (r193 : Bool) =>
  some r193

def find_has (n : Nat) (h : Header) : Option (Rule → Option Bool) :=
  some (fun (x194 : Rule) => find_has_1 n x194 h)

def find_Find (n : Nat) (f : Flat) (h : Header) : Option (Int × Bool) :=
  obind (find_has n h) fun (r195 : (Rule → Option Bool)) =>
  obind (slices_IndexFunc_Rule n f.1 r195) fun (r196 : Int) =>
  some (maxI r196 0, decide (r196 ≥ 0))

def law49_SliceOnce.s1 (n : Nat) (k1 : (Int → Int → Option Bool)) (k0 : ((List (List Cube)) → Int → Bool → (List (List Cube)) → Int → Int → Flat → Header → Option Bool)) (l_1 : (List (List Cube))) (at9_1 : Int) (ok_1 : Bool) (i : Int) (n13 : Int) (v45_1 : (List (List Cube))) (v46_1 : Int) (v47_1 : Int) (v52 : (List Cube)) (v53 : Int) (v54 : Int) (f_2 : Flat) (h_2 : Header) : Option Bool :=
  bif decide (v54 < v53) then
    bif inRange v54 (List.length v52) then
    obind (cube_Has n (List.getD v52 (Int.toNat v54) (List.replicate 24 ((0, 0), 0, 0))) h_2) fun (r198 : Bool) =>
    bif r198 then
      k1 (IntKind.wrap .i64 (n13 + 1)) (IntKind.wrap .i64 (v54 + 1))
    else
    k1 n13 (IntKind.wrap .i64 (v54 + 1))
    else none
  else
  bif (ok_1 == true) then
    bif ((i == at9_1) == true) then
      bif ((n13 != 1) == false) then
        bif ((!ok_1) == false) then
          bif ((i != at9_1) == true) then
            bif (n13 != 0) then
              some false
            else
            k0 l_1 at9_1 ok_1 v45_1 v46_1 (IntKind.wrap .i64 (v47_1 + 1)) f_2 h_2
          else
          k0 l_1 at9_1 ok_1 v45_1 v46_1 (IntKind.wrap .i64 (v47_1 + 1)) f_2 h_2
        else
        bif (n13 != 0) then
          some false
        else
        k0 l_1 at9_1 ok_1 v45_1 v46_1 (IntKind.wrap .i64 (v47_1 + 1)) f_2 h_2
      else
      some false
    else
    bif ((!ok_1) == false) then
      bif ((i != at9_1) == true) then
        bif (n13 != 0) then
          some false
        else
        k0 l_1 at9_1 ok_1 v45_1 v46_1 (IntKind.wrap .i64 (v47_1 + 1)) f_2 h_2
      else
      k0 l_1 at9_1 ok_1 v45_1 v46_1 (IntKind.wrap .i64 (v47_1 + 1)) f_2 h_2
    else
    bif (n13 != 0) then
      some false
    else
    k0 l_1 at9_1 ok_1 v45_1 v46_1 (IntKind.wrap .i64 (v47_1 + 1)) f_2 h_2
  else
  bif ((!ok_1) == false) then
    bif ((i != at9_1) == true) then
      bif (n13 != 0) then
        some false
      else
      k0 l_1 at9_1 ok_1 v45_1 v46_1 (IntKind.wrap .i64 (v47_1 + 1)) f_2 h_2
    else
    k0 l_1 at9_1 ok_1 v45_1 v46_1 (IntKind.wrap .i64 (v47_1 + 1)) f_2 h_2
  else
  bif (n13 != 0) then
    some false
  else
  k0 l_1 at9_1 ok_1 v45_1 v46_1 (IntKind.wrap .i64 (v47_1 + 1)) f_2 h_2

def law49_SliceOnce.l1 (n : Nat) (l_1 : (List (List Cube))) (at9_1 : Int) (ok_1 : Bool) (i : Int) (v45_1 : (List (List Cube))) (v46_1 : Int) (v47_1 : Int) (v52 : (List Cube)) (v53 : Int) (f_2 : Flat) (h_2 : Header) (k0 : ((List (List Cube)) → Int → Bool → (List (List Cube)) → Int → Int → Flat → Header → Option Bool)) : Nat → Int → Int → Option Bool
  | 0, _, _ => none
  | m + 1, n13, v54 => law49_SliceOnce.s1 n (fun n13' v54' => law49_SliceOnce.l1 n l_1 at9_1 ok_1 i v45_1 v46_1 v47_1 v52 v53 f_2 h_2 k0 m n13' v54') k0 l_1 at9_1 ok_1 i n13 v45_1 v46_1 v47_1 v52 v53 v54 f_2 h_2

def law49_SliceOnce.s0 (n : Nat) (k1 : ((List (List Cube)) → Int → Bool → Int → Int → (List (List Cube)) → Int → Int → (List Cube) → Int → Int → Flat → Header → Option Bool)) (l : (List (List Cube))) (at9 : Int) (ok : Bool) (v45 : (List (List Cube))) (v46 : Int) (v47 : Int) (f_1 : Flat) (h_1 : Header) : Option Bool :=
  bif decide (v47 < v46) then
    bif inRange v47 (List.length v45) then
    let y0 : (List Cube) := List.getD v45 (Int.toNat v47) ([] : (List Cube))
    k1 l at9 ok v47 0 v45 v46 v47 y0 ((List.length y0 : Nat) : Int) 0 f_1 h_1
    else none
  else
  bif ((((List.length l : Nat) : Int) == ((List.length f_1.1 : Nat) : Int)) == true) then
    obind (law49_awake n) fun (r199 : Bool) =>
    some r199
  else
  some false

def law49_SliceOnce.l0 (n : Nat) (l : (List (List Cube))) (at9 : Int) (ok : Bool) (v45 : (List (List Cube))) (v46 : Int) (f_1 : Flat) (h_1 : Header) : Nat → Int → Option Bool
  | 0, _ => none
  | m + 1, v47 => law49_SliceOnce.s0 n (fun l_1' at9_1' ok_1' i' n13' v45_1' v46_1' v47_1' v52' v53' v54' f_2' h_2' => law49_SliceOnce.l1 n l_1' at9_1' ok_1' i' v45_1' v46_1' v47_1' v52' v53' f_2' h_2' (fun l'' at9'' ok'' v45'' v46'' v47'' f_1'' h_1'' => law49_SliceOnce.l0 n l'' at9'' ok'' v45'' v46'' f_1'' h_1'' m v47'') n n13' v54') l at9 ok v45 v46 v47 f_1 h_1

def law49_SliceOnce.s (n : Nat) (k0 : ((List (List Cube)) → Int → Bool → (List (List Cube)) → Int → Int → Flat → Header → Option Bool)) (f : Flat) (most : Int) (h : Header) : Option Bool :=
  obind (law49_light n f most) fun (r189 : Bool) =>
  bif !r189 then
    obind (law49_awake n) fun (r190 : Bool) =>
    some r190
  else
  obind (slice_All n f most) fun (r191 : ((List (List Cube)) × Int)) =>
  bif (r191.2 != 0) then
    bif ((r191.2 == 5) == true) then
      bif ((((List.length r191.1 : Nat) : Int) == 0) == true) then
        obind (law49_awake n) fun (r192 : Bool) =>
        some r192
      else
      some false
    else
    some false
  else
  obind (find_Find n f h) fun (r197 : (Int × Bool)) =>
  k0 r191.1 r197.1 r197.2 r191.1 ((List.length r191.1 : Nat) : Int) 0 f h

def law49_SliceOnce (n : Nat) (f : Flat) (most : Int) (h : Header) : Option Bool := law49_SliceOnce.s n (fun l at9 ok v45 v46 v47 f_1 h_1 => law49_SliceOnce.l0 n l at9 ok v45 v46 f_1 h_1 n v47) f most h

def law49_SliceOnce.τs : List Ty := [TFlat, (.int .i64), THeader]

def law49_SliceMore (n : Nat) (f : Flat) (most : Int) (more : Int) : Option Bool :=
  obind (law49_light n f 0) fun (r200 : Bool) =>
  bif !r200 then
    obind (law49_awake n) fun (r201 : Bool) =>
    some r201
  else
  obind (slice_All n f (IntKind.wrap .i64 most)) fun (r202 : ((List (List Cube)) × Int)) =>
  obind (slice_All n f (IntKind.wrap .i64 ((IntKind.wrap .i64 most) + (IntKind.wrap .i64 more)))) fun (r203 : ((List (List Cube)) × Int)) =>
  bif ((r202.2 != 0) == false) then
    bif ((r203.2 == 0) == true) then
      obind (slices_EqualFunc_LCube n r202.1 r203.1 (fun (x204 : ((List Cube) × (List Cube))) => law49_same_c n x204.1 x204.2)) fun (r205 : Bool) =>
      bif (r205 == true) then
        obind (law49_awake n) fun (r206 : Bool) =>
        some r206
      else
      some false
    else
    some false
  else
  obind (law49_awake n) fun (r207 : Bool) =>
  some r207

def law49_SliceMore.τs : List Ty := [TFlat, (.int .u8), (.int .u8)]

end Go.Fn
