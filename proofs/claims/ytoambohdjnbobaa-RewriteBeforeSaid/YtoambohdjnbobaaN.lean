/- What the functions compute, as native texts: written by the session's program gen.py out of the translation. -/
import Derived.Test.YtoambohdjnbobaaViB
set_option linter.unusedVariables false
namespace Go.Fn
open Go Go.Vi

abbrev Wide := (Int × Int)
abbrev TWide : Ty := (.pair (.int .u64) (.int .u64))
abbrev Tern := (Wide × Wide)
abbrev TTern : Ty := (.pair TWide TWide)
abbrev Header := (List Wide)
abbrev THeader : Ty := (.arr 24 TWide)
abbrev Env := (Int × (List Int))
abbrev TEnv : Ty := (.pair (.int .i64) (.slc (.int .i64)))
abbrev Rewrite := (List Tern)
abbrev TRewrite : Ty := (.arr 24 TTern)
abbrev Oxm := (Int × (Bool × Tern))
abbrev TOxm : Ty := (.pair (.int .i64) (.pair .bool TTern))
abbrev Action := (Int × (Int × (Int × (Int × (Int × Oxm)))))
abbrev TAction : Ty := (.pair (.int .i64) (.pair (.int .i64) (.pair (.int .i64) (.pair (.int .i64) (.pair (.int .i64) TOxm)))))
abbrev Bucket := (Int × (Int × (Int × (List Action))))
abbrev TBucket : Ty := (.pair (.int .i64) (.pair (.int .i64) (.pair (.int .i64) (.slc TAction))))
abbrev Group := (Int × (Int × (List Bucket)))
abbrev TGroup : Ty := (.pair (.int .i64) (.pair (.int .i64) (.slc TBucket)))
abbrev World := (Env × Group)
abbrev TWorld : Ty := (.pair TEnv TGroup)

def num_sized (size : Int) : Bool :=
  bif ((size == 1) == false) then
    bif ((size == 2) == false) then
      (size == 4)
    else
    true
  else
  true
def num_sized.o (size : Int) : Option Bool :=
  bif ((size == 1) == false) then
    bif ((size == 2) == false) then
      some (size == 4)
    else
    some true
  else
  some true
theorem num_sized.o_eq (size : Int) : num_sized.o size = some (num_sized size) := by simp only [num_sized.o, num_sized, cond_some, obind_some]

def num_Get.s0 (n : Nat) (k0 : (Int → Int → Option (Int × Int))) (n8 : Int) (v29 : (List Int)) (v30 : Int) (v31 : Int) : Option (Int × Int) :=
  bif decide (v31 < v30) then
    bif inRange v31 (List.length v29) then
    k0 (bitsI .or .i64 (shlI .i64 n8 8) (IntKind.wrap .i64 (List.getD v29 (Int.toNat v31) 0))) (IntKind.wrap .i64 (v31 + 1))
    else none
  else
  some (n8, 0)

def num_Get.l0 (n : Nat) (v29 : (List Int)) (v30 : Int) : Nat → Int → Int → Option (Int × Int)
  | 0, _, _ => none
  | m + 1, n8, v31 => num_Get.s0 n (fun n8' v31' => num_Get.l0 n v29 v30 m n8' v31') n8 v29 v30 v31

def num_Get.s (n : Nat) (k0 : (Int → (List Int) → Int → Int → Option (Int × Int))) (b : (List Int)) (at1 : Int) (size : Int) : Option (Int × Int) :=
  obind (some (num_sized size)) fun (r1 : Bool) =>
  bif ((!r1) == false) then
    bif decide (at1 < 0) then
      some (0, 1)
    else
    bif decide ((IntKind.wrap .i64 (((List.length b : Nat) : Int) - at1)) < size) then
      some (0, 3)
    else
    bif ((decide (0 ≤ at1)) && ((decide (at1 ≤ (IntKind.wrap .i64 (at1 + size)))) && (decide ((IntKind.wrap .i64 (at1 + size)) ≤ ((List.length b : Nat) : Int))))) then
    let y0 : (List Int) := sub b (Int.toNat at1) (Int.toNat (IntKind.wrap .i64 (at1 + size)))
    k0 0 y0 ((List.length y0 : Nat) : Int) 0
    else none
  else
  some (0, 1)

def num_Get (n : Nat) (b : (List Int)) (at1 : Int) (size : Int) : Option (Int × Int) := num_Get.s n (fun n8 v29 v30 v31 => num_Get.l0 n v29 v30 n n8 v31) b at1 size

def ref01_Get.s0 (n : Nat) (k0 : (Int → Int → Option (Int × Int))) (b_1 : (List Int)) (at1_1 : Int) (size_1 : Int) (n8 : Int) (i : Int) : Option (Int × Int) :=
  bif decide (i < size_1) then
    bif inRange (IntKind.wrap .i64 (at1_1 + i)) (List.length b_1) then
    k0 (IntKind.wrap .i64 ((IntKind.wrap .i64 (n8 * 256)) + (IntKind.wrap .i64 (List.getD b_1 (Int.toNat (IntKind.wrap .i64 (at1_1 + i))) 0)))) (IntKind.wrap .i64 (i + 1))
    else none
  else
  some (n8, 0)

def ref01_Get.l0 (n : Nat) (b_1 : (List Int)) (at1_1 : Int) (size_1 : Int) : Nat → Int → Int → Option (Int × Int)
  | 0, _, _ => none
  | m + 1, n8, i => ref01_Get.s0 n (fun n8' i' => ref01_Get.l0 n b_1 at1_1 size_1 m n8' i') b_1 at1_1 size_1 n8 i

def ref01_Get.s (n : Nat) (k0 : ((List Int) → Int → Int → Int → Int → Option (Int × Int))) (b : (List Int)) (at1 : Int) (size : Int) : Option (Int × Int) :=
  bif ((size != 1) == true) then
    bif ((size != 2) == true) then
      bif ((size != 4) == false) then
        bif decide (at1 < 0) then
          some (0, 1)
        else
        bif ((decide (at1 > ((List.length b : Nat) : Int))) == false) then
          bif decide (size > (IntKind.wrap .i64 (((List.length b : Nat) : Int) - at1))) then
            some (0, 3)
          else
          k0 b at1 size 0 0
        else
        some (0, 3)
      else
      some (0, 1)
    else
    bif decide (at1 < 0) then
      some (0, 1)
    else
    bif ((decide (at1 > ((List.length b : Nat) : Int))) == false) then
      bif decide (size > (IntKind.wrap .i64 (((List.length b : Nat) : Int) - at1))) then
        some (0, 3)
      else
      k0 b at1 size 0 0
    else
    some (0, 3)
  else
  bif decide (at1 < 0) then
    some (0, 1)
  else
  bif ((decide (at1 > ((List.length b : Nat) : Int))) == false) then
    bif decide (size > (IntKind.wrap .i64 (((List.length b : Nat) : Int) - at1))) then
      some (0, 3)
    else
    k0 b at1 size 0 0
  else
  some (0, 3)

def ref01_Get (n : Nat) (b : (List Int)) (at1 : Int) (size : Int) : Option (Int × Int) := ref01_Get.s n (fun b_1 at1_1 size_1 n8 i => ref01_Get.l0 n b_1 at1_1 size_1 n n8 i) b at1 size

def num_Right (n0 : Int) (size : Int) : Option Bool :=
  obind (some (num_sized size)) fun (r5 : Bool) =>
  bif (r5 == true) then
    bif ((decide (n0 ≥ 0)) == true) then
      bif !(decide ((IntKind.wrap .i64 (8 * size)) < 0)) then
      some ((shrI .i64 n0 (IntKind.wrap .i64 (8 * size))) == 0)
      else none
    else
    some false
  else
  some false

def num_Put.s0 (n : Nat) (k0 : (Int → (List Int) → Option (List Int))) (b_1 : (List Int)) (n1_1 : Int) (size_1 : Int) (v15 : Int) (x : (List Int)) : Option (List Int) :=
  bif decide (v15 < 4) then
    let y0 : Int := IntKind.wrap .i64 (24 - (IntKind.wrap .i64 (8 * v15)))
    bif !(decide (y0 < 0)) then
    bif inRange v15 4 then
    k0 (IntKind.wrap .i64 (v15 + 1)) (List.set x (Int.toNat v15) (IntKind.wrap .u8 (shrI .i64 n1_1 y0)))
    else none
    else none
  else
  bif ((decide (0 ≤ ((List.length b_1 : Nat) : Int))) && ((decide (((List.length b_1 : Nat) : Int) = ((List.length b_1 : Nat) : Int))) && (decide (((List.length b_1 : Nat) : Int) ≤ ((List.length b_1 : Nat) : Int))))) then
  bif ((decide (0 ≤ (IntKind.wrap .i64 (4 - size_1)))) && (decide ((IntKind.wrap .i64 (4 - size_1)) ≤ ((List.length x : Nat) : Int)))) then
  let y1 : Nat := Int.toNat ((List.length b_1 : Nat) : Int)
  let y2 : (List Int) := sub b_1 0 y1
  let y3 : Nat := Int.toNat (IntKind.wrap .i64 (4 - size_1))
  let y4 : (List Int) := List.drop y3 x
  bif decide ((List.length y2 + List.length y4) * 1 ≤ 140737488355328) then
  some (y2 ++ y4)
  else none
  else none
  else none

def num_Put.l0 (n : Nat) (b_1 : (List Int)) (n1_1 : Int) (size_1 : Int) : Nat → Int → (List Int) → Option (List Int)
  | 0, _, _ => none
  | m + 1, v15, x => num_Put.s0 n (fun v15' x' => num_Put.l0 n b_1 n1_1 size_1 m v15' x') b_1 n1_1 size_1 v15 x

def num_Put.s (n : Nat) (k0 : ((List Int) → Int → Int → Int → (List Int) → Option (List Int))) (b : (List Int)) (n1 : Int) (size : Int) : Option (List Int) :=
  obind (num_Right n1 size) fun (r6 : Bool) =>
  bif !r6 then
    bif decide ((List.length ([] : (List Int)) + List.length b) * 1 ≤ 140737488355328) then
    some (([] : (List Int)) ++ b)
    else none
  else
  k0 b n1 size 0 (List.replicate 4 0)

def num_Put (n : Nat) (b : (List Int)) (n1 : Int) (size : Int) : Option (List Int) := num_Put.s n (fun b_1 n1_1 size_1 v15 x => num_Put.l0 n b_1 n1_1 size_1 n v15 x) b n1 size

def slices_Equal_byte.s0 (n : Nat) (k0 : (Int → Option Bool)) (s1_1 : (List Int)) (s2_1 : (List Int)) (v12 : Int) (v13 : Int) : Option Bool :=
  bif decide (v13 < v12) then
    bif inRange v13 (List.length s1_1) then
    bif inRange v13 (List.length s2_1) then
    bif ((List.getD s1_1 (Int.toNat v13) 0) != (List.getD s2_1 (Int.toNat v13) 0)) then
      some false
    else
    k0 (IntKind.wrap .i64 (v13 + 1))
    else none
    else none
  else
  some true

def slices_Equal_byte.l0 (n : Nat) (s1_1 : (List Int)) (s2_1 : (List Int)) (v12 : Int) : Nat → Int → Option Bool
  | 0, _ => none
  | m + 1, v13 => slices_Equal_byte.s0 n (fun v13' => slices_Equal_byte.l0 n s1_1 s2_1 v12 m v13') s1_1 s2_1 v12 v13

def slices_Equal_byte.s (n : Nat) (k0 : ((List Int) → (List Int) → Int → Int → Option Bool)) (s1 : (List Int)) (s2 : (List Int)) : Option Bool :=
  bif (((List.length s1 : Nat) : Int) != ((List.length s2 : Nat) : Int)) then
    some false
  else
  k0 s1 s2 ((List.length s1 : Nat) : Int) 0

def slices_Equal_byte (n : Nat) (s1 : (List Int)) (s2 : (List Int)) : Option Bool := slices_Equal_byte.s n (fun s1_1 s2_1 v12 v13 => slices_Equal_byte.l0 n s1_1 s2_1 v12 n v13) s1 s2

def law01_awake (n : Nat) : Option Bool :=
  obind (num_Get n ([0, 1, 2] : (List Int)) 1 2) fun (r4 : (Int × Int)) =>
  obind (num_Put n ([] : (List Int)) 258 2) fun (r7 : (List Int)) =>
  obind (slices_Equal_byte n r7 ([1, 2] : (List Int))) fun (r8 : Bool) =>
  bif (r8 == true) then
    bif ((r4.1 == 258) == true) then
      bif ((r4.2 == 0) == true) then
        obind (num_Right 255 1) fun (r9 : Bool) =>
        bif (r9 == true) then
          obind (num_Right 256 1) fun (r10 : Bool) =>
          some (!r10)
        else
        some false
      else
      some false
    else
    some false
  else
  some false

def law01_awake.τs : List Ty := []

def law01_NumGets (n : Nat) (b : (List Int)) (at1 : Int) (size : Int) : Option Bool :=
  obind (num_Get n b at1 size) fun (r2 : (Int × Int)) =>
  obind (ref01_Get n b at1 size) fun (r3 : (Int × Int)) =>
  bif ((r2.1 == r3.1) == true) then
    bif ((r2.2 == r3.2) == true) then
      obind (law01_awake n) fun (r11 : Bool) =>
      some r11
    else
    some false
  else
  some false

def law01_NumGets.τs : List Ty := [(.slc (.int .u8)), (.int .i64), (.int .i64)]

def law01_NumBack (n : Nat) (b : (List Int)) (n1 : Int) (k2 : Int) : Option Bool :=
  bif decide (((List.length b : Nat) : Int) > 4000) then
    obind (law01_awake n) fun (r12 : Bool) =>
    some r12
  else
  bif inRange (Int.tmod k2 3) (List.length ([1, 2, 4] : (List Int))) then
  let y0 : Nat := Int.toNat (Int.tmod k2 3)
  let y1 : Int := List.getD ([1, 2, 4] : (List Int)) y0 0
  let y2 : Int := IntKind.wrap .i64 (8 * y1)
  bif !(decide (y2 < 0)) then
  let y3 : Int := shlI .i64 1 y2
  let y4 : Int := IntKind.wrap .i64 (y3 - 1)
  let y5 : Int := bitsI .and .i64 (IntKind.wrap .i64 n1) y4
  obind (num_Put n b y5 y1) fun (r13 : (List Int)) =>
  obind (num_Get n r13 ((List.length b : Nat) : Int) y1) fun (r14 : (Int × Int)) =>
  bif ((r14.1 == y5) == true) then
    bif ((r14.2 == 0) == true) then
      obind (law01_awake n) fun (r15 : Bool) =>
      some r15
    else
    some false
  else
  some false
  else none
  else none

def law01_NumBack.τs : List Ty := [(.slc (.int .u8)), (.int .u32), (.int .u8)]

def slices_Clone_byte (s : (List Int)) : Option (List Int) := bif decide ((List.length ([] : (List Int)) + List.length s) * 1 ≤ 140737488355328) then some s else none

def ref01_Right (n0 : Int) (size : Int) : Bool :=
  bif (size == 1) then
    bif ((decide (n0 ≥ 0)) == true) then
      decide (n0 ≤ 255)
    else
    false
  else
  bif (size == 2) then
    bif ((decide (n0 ≥ 0)) == true) then
      decide (n0 ≤ 65535)
    else
    false
  else
  bif (size == 4) then
    bif ((decide (n0 ≥ 0)) == true) then
      decide (n0 ≤ 4294967295)
    else
    false
  else
  false
def ref01_Right.o (n0 : Int) (size : Int) : Option Bool :=
  bif (size == 1) then
    bif ((decide (n0 ≥ 0)) == true) then
      some (decide (n0 ≤ 255))
    else
    some false
  else
  bif (size == 2) then
    bif ((decide (n0 ≥ 0)) == true) then
      some (decide (n0 ≤ 65535))
    else
    some false
  else
  bif (size == 4) then
    bif ((decide (n0 ≥ 0)) == true) then
      some (decide (n0 ≤ 4294967295))
    else
    some false
  else
  some false
theorem ref01_Right.o_eq (n0 : Int) (size : Int) : ref01_Right.o n0 size = some (ref01_Right n0 size) := by simp only [ref01_Right.o, ref01_Right, cond_some, obind_some]

def ref01_Put.s0 (n : Nat) (k0 : ((List Int) → Int → Option (List Int))) (n1_1 : Int) (out : (List Int)) (i : Int) : Option (List Int) :=
  bif decide (i ≥ 0) then
    bif !(decide ((IntKind.wrap .i64 (8 * i)) < 0)) then
    let y0 : Int := shrI .i64 n1_1 (IntKind.wrap .i64 (8 * i))
    let y1 : Int := IntKind.wrap .u8 y0
    bif decide ((List.length out + List.length ([y1] : (List Int))) * 1 ≤ 140737488355328) then
    k0 (out ++ ([y1] : (List Int))) (IntKind.wrap .i64 (i - 1))
    else none
    else none
  else
  some out

def ref01_Put.l0 (n : Nat) (n1_1 : Int) : Nat → (List Int) → Int → Option (List Int)
  | 0, _, _ => none
  | m + 1, out, i => ref01_Put.s0 n (fun out' i' => ref01_Put.l0 n n1_1 m out' i') n1_1 out i

def ref01_Put.s (n : Nat) (k0 : (Int → (List Int) → Int → Option (List Int))) (b : (List Int)) (n1 : Int) (size : Int) : Option (List Int) :=
  bif decide ((List.length ([] : (List Int)) + List.length b) * 1 ≤ 140737488355328) then
  obind (some (ref01_Right n1 size)) fun (r19 : Bool) =>
  let y0 : (List Int) := (([] : (List Int)) ++ b)
  bif !r19 then
    some y0
  else
  k0 n1 y0 (IntKind.wrap .i64 (size - 1))
  else none

def ref01_Put (n : Nat) (b : (List Int)) (n1 : Int) (size : Int) : Option (List Int) := ref01_Put.s n (fun n1_1 out i => ref01_Put.l0 n n1_1 n out i) b n1 size

def law01_NumPuts (n : Nat) (b : (List Int)) (n1 : Int) (size : Int) : Option Bool :=
  bif decide (((List.length b : Nat) : Int) > 4000) then
    obind (law01_awake n) fun (r16 : Bool) =>
    some r16
  else
  obind (slices_Clone_byte b) fun (r17 : (List Int)) =>
  bif decide ((List.length r17 + List.length ([9, 8, 7, 6] : (List Int))) * 1 ≤ 140737488355328) then
  let y0 : (List Int) := (r17 ++ ([9, 8, 7, 6] : (List Int)))
  bif ((decide (0 ≤ ((List.length b : Nat) : Int))) && (decide (((List.length b : Nat) : Int) ≤ ((List.length y0 : Nat) : Int)))) then
  obind (num_Put n (sub y0 0 (Int.toNat ((List.length b : Nat) : Int))) n1 size) fun (r18 : (List Int)) =>
  obind (ref01_Put n b n1 size) fun (r20 : (List Int)) =>
  obind (slices_Equal_byte n r18 r20) fun (r21 : Bool) =>
  bif (r21 == true) then
    obind (slices_Clone_byte b) fun (r22 : (List Int)) =>
    bif decide ((List.length r22 + List.length ([9, 8, 7, 6] : (List Int))) * 1 ≤ 140737488355328) then
    obind (slices_Equal_byte n y0 (r22 ++ ([9, 8, 7, 6] : (List Int)))) fun (r23 : Bool) =>
    bif (r23 == true) then
      obind (num_Right n1 size) fun (r24 : Bool) =>
      obind (some (ref01_Right n1 size)) fun (r25 : Bool) =>
      bif ((r24 == r25) == true) then
        obind (law01_awake n) fun (r26 : Bool) =>
        some r26
      else
      some false
    else
    some false
    else none
  else
  some false
  else none
  else none

def law01_NumPuts.τs : List Ty := [(.slc (.int .u8)), (.int .i64), (.int .i64)]

def wide_And (a : Wide) (b : Wide) : Wide :=
  (bitsI .and .u64 a.1 b.1, bitsI .and .u64 a.2 b.2)

def wide_Xor (a : Wide) (b : Wide) : Wide :=
  (bitsI .xor .u64 a.1 b.1, bitsI .xor .u64 a.2 b.2)

def tern_unlike (a : Wide) (b : Wide) (mask : Wide) : Wide :=
  let r28 : Wide := wide_Xor a b
  let r29 : Wide := wide_And r28 mask
  r29

def wide_Zero (a : Wide) : Bool :=
  ((bitsI .or .u64 a.1 a.2) == 0)

def tern_Has (t : Tern) (v : Wide) : Bool :=
  let r30 : Wide := tern_unlike t.1 v t.2
  let r31 : Bool := wide_Zero r30
  r31

def tern_Clean (t : Tern) : Tern :=
  let r33 : Wide := wide_And t.1 t.2
  (r33, t.2)

def wide_Or (a : Wide) (b : Wide) : Wide :=
  (bitsI .or .u64 a.1 b.1, bitsI .or .u64 a.2 b.2)

def tern_Meet (a : Tern) (b : Tern) : (Tern × Bool) :=
  let r27 : Wide := wide_And a.2 b.2
  let r32 : Bool := tern_Has (a.1, r27) b.1
  bif !r32 then
    (((0, 0), 0, 0), false)
  else
  let r34 : Tern := tern_Clean a
  let r35 : Tern := tern_Clean b
  let r36 : Wide := wide_Or r34.1 r35.1
  let r37 : Wide := wide_Or r34.2 r35.2
  ((r36, r37), true)
def tern_Meet.o (a : Tern) (b : Tern) : Option (Tern × Bool) :=
  obind (some (wide_And a.2 b.2)) fun (r27 : Wide) =>
  obind (some (tern_Has (a.1, r27) b.1)) fun (r32 : Bool) =>
  bif !r32 then
    some (((0, 0), 0, 0), false)
  else
  obind (some (tern_Clean a)) fun (r34 : Tern) =>
  obind (some (tern_Clean b)) fun (r35 : Tern) =>
  obind (some (wide_Or r34.1 r35.1)) fun (r36 : Wide) =>
  obind (some (wide_Or r34.2 r35.2)) fun (r37 : Wide) =>
  some ((r36, r37), true)
theorem tern_Meet.o_eq (a : Tern) (b : Tern) : tern_Meet.o a b = some (tern_Meet a b) := by simp only [tern_Meet.o, tern_Meet, cond_some, obind_some]

def wide_Less (a : Wide) (b : Wide) : Wide :=
  (bitsI .andNot .u64 a.1 b.1, bitsI .andNot .u64 a.2 b.2)

def rewrite_Before_1 (i : Int) (c0 : Rewrite) (c1 : Rewrite) : Option Tern :=
  bif inRange i 24 then
  bif inRange i 24 then
  bif inRange i 24 then
  obind (some (wide_Less (List.getD c0 (Int.toNat i) ((0, 0), 0, 0)).2 (List.getD c1 (Int.toNat i) ((0, 0), 0, 0)).2)) fun (r39 : Wide) =>
  obind (some (tern_Clean ((List.getD c0 (Int.toNat i) ((0, 0), 0, 0)).1, r39))) fun (r40 : Tern) =>
  some r40
  else none
  else none
  else none

def rewrite_each_Cube.s0 (n : Nat) (k0 : (Int → Rewrite → Option Rewrite)) (f_1 : (Int → Option Tern)) (v5 : Int) (v2 : Rewrite) (out : Rewrite) : Option Rewrite :=
  bif decide (v5 < 24) then
    obind (f_1 v5) fun (r42 : Tern) =>
    bif inRange v5 24 then
    k0 (IntKind.wrap .i64 (v5 + 1)) (List.set out (Int.toNat v5) r42)
    else none
  else
  some out

def rewrite_each_Cube.l0 (n : Nat) (f_1 : (Int → Option Tern)) (v2 : Rewrite) : Nat → Int → Rewrite → Option Rewrite
  | 0, _, _ => none
  | m + 1, v5, out => rewrite_each_Cube.s0 n (fun v5' out' => rewrite_each_Cube.l0 n f_1 v2 m v5' out') f_1 v5 v2 out

def rewrite_each_Cube.s (n : Nat) (k0 : ((Int → Option Tern) → Int → Rewrite → Rewrite → Option Rewrite)) (f : (Int → Option Tern)) : Option Rewrite :=
  k0 f 0 (List.replicate 24 ((0, 0), 0, 0)) (List.replicate 24 ((0, 0), 0, 0))

def rewrite_each_Cube (n : Nat) (f : (Int → Option Tern)) : Option Rewrite := rewrite_each_Cube.s n (fun f_1 v5 v2 out => rewrite_each_Cube.l0 n f_1 v2 n v5 out) f

def rewrite_Before.s0 (n : Nat) (k0 : (Int → Option (Rewrite × Bool))) (v10 : Rewrite) (v11 : Int) (r_1 : Rewrite) (c_1 : Rewrite) (v4 : Rewrite) : Option (Rewrite × Bool) :=
  bif decide (v11 < 24) then
    bif inRange v11 24 then
    bif inRange v11 24 then
    obind (some (tern_Meet (List.getD v10 (Int.toNat v11) ((0, 0), 0, 0)) (List.getD c_1 (Int.toNat v11) ((0, 0), 0, 0)))) fun (r38 : (Tern × Bool)) =>
    bif !r38.2 then
      some (([((0, 0), 0, 0), ((0, 0), 0, 0), ((0, 0), 0, 0), ((0, 0), 0, 0), ((0, 0), 0, 0), ((0, 0), 0, 0), ((0, 0), 0, 0), ((0, 0), 0, 0), ((0, 0), 0, 0), ((0, 0), 0, 0), ((0, 0), 0, 0), ((0, 0), 0, 0), ((0, 0), 0, 0), ((0, 0), 0, 0), ((0, 0), 0, 0), ((0, 0), 0, 0), ((0, 0), 0, 0), ((0, 0), 0, 0), ((0, 0), 0, 0), ((0, 0), 0, 0), ((0, 0), 0, 0), ((0, 0), 0, 0), ((0, 0), 0, 0), ((0, 0), 0, 0)] : Rewrite), false)
    else
    k0 (IntKind.wrap .i64 (v11 + 1))
    else none
    else none
  else
  obind (rewrite_each_Cube n (fun (x41 : Int) => rewrite_Before_1 x41 c_1 r_1)) fun (r43 : Rewrite) =>
  some (r43, true)

def rewrite_Before.l0 (n : Nat) (v10 : Rewrite) (r_1 : Rewrite) (c_1 : Rewrite) (v4 : Rewrite) : Nat → Int → Option (Rewrite × Bool)
  | 0, _ => none
  | m + 1, v11 => rewrite_Before.s0 n (fun v11' => rewrite_Before.l0 n v10 r_1 c_1 v4 m v11') v10 v11 r_1 c_1 v4

def rewrite_Before.s (n : Nat) (k0 : (Rewrite → Int → Rewrite → Rewrite → Rewrite → Option (Rewrite × Bool))) (r : Rewrite) (c : Rewrite) : Option (Rewrite × Bool) :=
  k0 r 0 r c (List.replicate 24 ((0, 0), 0, 0))

def rewrite_Before (n : Nat) (r : Rewrite) (c : Rewrite) : Option (Rewrite × Bool) := rewrite_Before.s n (fun v10 v11 r_1 c_1 v4 => rewrite_Before.l0 n v10 r_1 c_1 v4 n v11) r c

def ref02_And (a : Wide) (b : Wide) : Wide :=
  (bitsI .and .u64 a.1 b.1, bitsI .and .u64 a.2 b.2)

def ref02_Xor (a : Wide) (b : Wide) : Wide :=
  (bitsI .xor .u64 a.1 b.1, bitsI .xor .u64 a.2 b.2)

def ref02_Zero (a : Wide) : Bool :=
  bif ((a.1 == 0) == true) then
    (a.2 == 0)
  else
  false
def ref02_Zero.o (a : Wide) : Option Bool :=
  bif ((a.1 == 0) == true) then
    some (a.2 == 0)
  else
  some false
theorem ref02_Zero.o_eq (a : Wide) : ref02_Zero.o a = some (ref02_Zero a) := by simp only [ref02_Zero.o, ref02_Zero, cond_some, obind_some]

def ref05_Clean (t : Tern) : Tern :=
  let r49 : Wide := ref02_And t.1 t.2
  (r49, t.2)

def ref02_Or (a : Wide) (b : Wide) : Wide :=
  (bitsI .or .u64 a.1 b.1, bitsI .or .u64 a.2 b.2)

def ref05_Meet (a : Tern) (b : Tern) : (Tern × Bool) :=
  let r45 : Wide := ref02_And a.2 b.2
  let r46 : Wide := ref02_Xor a.1 b.1
  let r47 : Wide := ref02_And r46 r45
  let r48 : Bool := ref02_Zero r47
  bif !r48 then
    (((0, 0), 0, 0), false)
  else
  let r50 : Tern := ref05_Clean a
  let r51 : Tern := ref05_Clean b
  let r52 : Wide := ref02_Or r50.1 r51.1
  let r53 : Wide := ref02_Or r50.2 r51.2
  ((r52, r53), true)
def ref05_Meet.o (a : Tern) (b : Tern) : Option (Tern × Bool) :=
  obind (some (ref02_And a.2 b.2)) fun (r45 : Wide) =>
  obind (some (ref02_Xor a.1 b.1)) fun (r46 : Wide) =>
  obind (some (ref02_And r46 r45)) fun (r47 : Wide) =>
  obind (some (ref02_Zero r47)) fun (r48 : Bool) =>
  bif !r48 then
    some (((0, 0), 0, 0), false)
  else
  obind (some (ref05_Clean a)) fun (r50 : Tern) =>
  obind (some (ref05_Clean b)) fun (r51 : Tern) =>
  obind (some (ref02_Or r50.1 r51.1)) fun (r52 : Wide) =>
  obind (some (ref02_Or r50.2 r51.2)) fun (r53 : Wide) =>
  some ((r52, r53), true)
theorem ref05_Meet.o_eq (a : Tern) (b : Tern) : ref05_Meet.o a b = some (ref05_Meet a b) := by simp only [ref05_Meet.o, ref05_Meet, cond_some, obind_some]

def ref02_Less (a : Wide) (b : Wide) : Wide :=
  (bitsI .andNot .u64 a.1 b.1, bitsI .andNot .u64 a.2 b.2)

def ref09_Before.s0 (n : Nat) (k0 : (Int → Rewrite → Option (Rewrite × Bool))) (f : Int) (r_1 : Rewrite) (c_1 : Rewrite) (v4 : Rewrite) (out : Rewrite) : Option (Rewrite × Bool) :=
  bif decide (f < 24) then
    bif inRange f 24 then
    bif inRange f 24 then
    obind (some (ref05_Meet (List.getD r_1 (Int.toNat f) ((0, 0), 0, 0)) (List.getD c_1 (Int.toNat f) ((0, 0), 0, 0)))) fun (r54 : (Tern × Bool)) =>
    bif !r54.2 then
      some (([((0, 0), 0, 0), ((0, 0), 0, 0), ((0, 0), 0, 0), ((0, 0), 0, 0), ((0, 0), 0, 0), ((0, 0), 0, 0), ((0, 0), 0, 0), ((0, 0), 0, 0), ((0, 0), 0, 0), ((0, 0), 0, 0), ((0, 0), 0, 0), ((0, 0), 0, 0), ((0, 0), 0, 0), ((0, 0), 0, 0), ((0, 0), 0, 0), ((0, 0), 0, 0), ((0, 0), 0, 0), ((0, 0), 0, 0), ((0, 0), 0, 0), ((0, 0), 0, 0), ((0, 0), 0, 0), ((0, 0), 0, 0), ((0, 0), 0, 0), ((0, 0), 0, 0)] : Rewrite), false)
    else
    bif inRange f 24 then
    bif inRange f 24 then
    bif inRange f 24 then
    obind (some (ref02_Less (List.getD c_1 (Int.toNat f) ((0, 0), 0, 0)).2 (List.getD r_1 (Int.toNat f) ((0, 0), 0, 0)).2)) fun (r55 : Wide) =>
    obind (some (ref05_Clean ((List.getD c_1 (Int.toNat f) ((0, 0), 0, 0)).1, r55))) fun (r56 : Tern) =>
    bif inRange f 24 then
    k0 (IntKind.wrap .i64 (f + 1)) (List.set out (Int.toNat f) r56)
    else none
    else none
    else none
    else none
    else none
    else none
  else
  some (out, true)

def ref09_Before.l0 (n : Nat) (r_1 : Rewrite) (c_1 : Rewrite) (v4 : Rewrite) : Nat → Int → Rewrite → Option (Rewrite × Bool)
  | 0, _, _ => none
  | m + 1, f, out => ref09_Before.s0 n (fun f' out' => ref09_Before.l0 n r_1 c_1 v4 m f' out') f r_1 c_1 v4 out

def ref09_Before.s (n : Nat) (k0 : (Int → Rewrite → Rewrite → Rewrite → Rewrite → Option (Rewrite × Bool))) (r : Rewrite) (c : Rewrite) : Option (Rewrite × Bool) :=
  k0 0 r c (List.replicate 24 ((0, 0), 0, 0)) ([((0, 0), 0, 0), ((0, 0), 0, 0), ((0, 0), 0, 0), ((0, 0), 0, 0), ((0, 0), 0, 0), ((0, 0), 0, 0), ((0, 0), 0, 0), ((0, 0), 0, 0), ((0, 0), 0, 0), ((0, 0), 0, 0), ((0, 0), 0, 0), ((0, 0), 0, 0), ((0, 0), 0, 0), ((0, 0), 0, 0), ((0, 0), 0, 0), ((0, 0), 0, 0), ((0, 0), 0, 0), ((0, 0), 0, 0), ((0, 0), 0, 0), ((0, 0), 0, 0), ((0, 0), 0, 0), ((0, 0), 0, 0), ((0, 0), 0, 0), ((0, 0), 0, 0)] : Rewrite)

def ref09_Before (n : Nat) (r : Rewrite) (c : Rewrite) : Option (Rewrite × Bool) := ref09_Before.s n (fun f r_1 c_1 v4 out => ref09_Before.l0 n r_1 c_1 v4 n f out) r c

def rewrite_Apply.s0 (n : Nat) (k0 : (Int → Header → Option Header)) (v7 : Rewrite) (v8 : Int) (h_1 : Header) (v4 : Header) : Option Header :=
  bif decide (v8 < 24) then
    bif inRange v8 24 then
    bif inRange v8 24 then
    let y0 : Tern := List.getD v7 (Int.toNat v8) ((0, 0), 0, 0)
    obind (some (wide_Less (List.getD h_1 (Int.toNat v8) (0, 0)) y0.2)) fun (r58 : Wide) =>
    obind (some (wide_And y0.1 y0.2)) fun (r59 : Wide) =>
    obind (some (wide_Or r58 r59)) fun (r60 : Wide) =>
    bif inRange v8 24 then
    k0 (IntKind.wrap .i64 (v8 + 1)) (List.set h_1 (Int.toNat v8) r60)
    else none
    else none
    else none
  else
  some h_1

def rewrite_Apply.l0 (n : Nat) (v7 : Rewrite) (v4 : Header) : Nat → Int → Header → Option Header
  | 0, _, _ => none
  | m + 1, v8, h_1 => rewrite_Apply.s0 n (fun v8' h_1' => rewrite_Apply.l0 n v7 v4 m v8' h_1') v7 v8 h_1 v4

def rewrite_Apply.s (n : Nat) (k0 : (Rewrite → Int → Header → Header → Option Header)) (r : Rewrite) (h : Header) : Option Header :=
  k0 r 0 h (List.replicate 24 (0, 0))

def rewrite_Apply (n : Nat) (r : Rewrite) (h : Header) : Option Header := rewrite_Apply.s n (fun v7 v8 h_1 v4 => rewrite_Apply.l0 n v7 v4 n v8 h_1) r h

def ref09_Apply.s0 (n : Nat) (k0 : (Int → Header → Option Header)) (f : Int) (r_1 : Rewrite) (h_1 : Header) (v4 : Header) : Option Header :=
  bif decide (f < 24) then
    bif inRange f 24 then
    bif inRange f 24 then
    obind (some (ref02_Less (List.getD h_1 (Int.toNat f) (0, 0)) (List.getD r_1 (Int.toNat f) ((0, 0), 0, 0)).2)) fun (r62 : Wide) =>
    bif inRange f 24 then
    bif inRange f 24 then
    obind (some (ref02_And (List.getD r_1 (Int.toNat f) ((0, 0), 0, 0)).1 (List.getD r_1 (Int.toNat f) ((0, 0), 0, 0)).2)) fun (r63 : Wide) =>
    obind (some (ref02_Or r62 r63)) fun (r64 : Wide) =>
    bif inRange f 24 then
    k0 (IntKind.wrap .i64 (f + 1)) (List.set h_1 (Int.toNat f) r64)
    else none
    else none
    else none
    else none
    else none
  else
  some h_1

def ref09_Apply.l0 (n : Nat) (r_1 : Rewrite) (v4 : Header) : Nat → Int → Header → Option Header
  | 0, _, _ => none
  | m + 1, f, h_1 => ref09_Apply.s0 n (fun f' h_1' => ref09_Apply.l0 n r_1 v4 m f' h_1') f r_1 h_1 v4

def ref09_Apply.s (n : Nat) (k0 : (Int → Rewrite → Header → Header → Option Header)) (r : Rewrite) (h : Header) : Option Header :=
  k0 0 r h (List.replicate 24 (0, 0))

def ref09_Apply (n : Nat) (r : Rewrite) (h : Header) : Option Header := ref09_Apply.s n (fun f r_1 h_1 v4 => ref09_Apply.l0 n r_1 v4 n f h_1) r h

def rewrite_over (a : Tern) (b : Tern) : Tern :=
  let r66 : Tern := tern_Clean a
  let r67 : Tern := tern_Clean b
  let r68 : Wide := wide_Less r66.1 r67.2
  let r69 : Wide := wide_Or r68 r67.1
  let r70 : Wide := wide_Or r66.2 r67.2
  (r69, r70)

def rewrite_Then_1 (i : Int) (c0 : Rewrite) (c1 : Rewrite) : Option Tern :=
  bif inRange i 24 then
  bif inRange i 24 then
  obind (some (rewrite_over (List.getD c0 (Int.toNat i) ((0, 0), 0, 0)) (List.getD c1 (Int.toNat i) ((0, 0), 0, 0)))) fun (r71 : Tern) =>
  some r71
  else none
  else none

def rewrite_each_Rewrite.s0 (n : Nat) (k0 : (Int → Rewrite → Option Rewrite)) (f_1 : (Int → Option Tern)) (v5 : Int) (v2 : Rewrite) (out : Rewrite) : Option Rewrite :=
  bif decide (v5 < 24) then
    obind (f_1 v5) fun (r73 : Tern) =>
    bif inRange v5 24 then
    k0 (IntKind.wrap .i64 (v5 + 1)) (List.set out (Int.toNat v5) r73)
    else none
  else
  some out

def rewrite_each_Rewrite.l0 (n : Nat) (f_1 : (Int → Option Tern)) (v2 : Rewrite) : Nat → Int → Rewrite → Option Rewrite
  | 0, _, _ => none
  | m + 1, v5, out => rewrite_each_Rewrite.s0 n (fun v5' out' => rewrite_each_Rewrite.l0 n f_1 v2 m v5' out') f_1 v5 v2 out

def rewrite_each_Rewrite.s (n : Nat) (k0 : ((Int → Option Tern) → Int → Rewrite → Rewrite → Option Rewrite)) (f : (Int → Option Tern)) : Option Rewrite :=
  k0 f 0 (List.replicate 24 ((0, 0), 0, 0)) (List.replicate 24 ((0, 0), 0, 0))

def rewrite_each_Rewrite (n : Nat) (f : (Int → Option Tern)) : Option Rewrite := rewrite_each_Rewrite.s n (fun f_1 v5 v2 out => rewrite_each_Rewrite.l0 n f_1 v2 n v5 out) f

def rewrite_Then (n : Nat) (a : Rewrite) (b : Rewrite) : Option Rewrite :=
  obind (rewrite_each_Rewrite n (fun (x72 : Int) => rewrite_Then_1 x72 a b)) fun (r74 : Rewrite) =>
  some r74

def ref09_Clean.s0 (n : Nat) (k0 : (Int → Rewrite → Option Rewrite)) (f : Int) (r_1 : Rewrite) (v2 : Rewrite) : Option Rewrite :=
  bif decide (f < 24) then
    bif inRange f 24 then
    obind (some (ref05_Clean (List.getD r_1 (Int.toNat f) ((0, 0), 0, 0)))) fun (r76 : Tern) =>
    bif inRange f 24 then
    k0 (IntKind.wrap .i64 (f + 1)) (List.set r_1 (Int.toNat f) r76)
    else none
    else none
  else
  some r_1

def ref09_Clean.l0 (n : Nat) (v2 : Rewrite) : Nat → Int → Rewrite → Option Rewrite
  | 0, _, _ => none
  | m + 1, f, r_1 => ref09_Clean.s0 n (fun f' r_1' => ref09_Clean.l0 n v2 m f' r_1') f r_1 v2

def ref09_Clean.s (n : Nat) (k0 : (Int → Rewrite → Rewrite → Option Rewrite)) (r : Rewrite) : Option Rewrite :=
  k0 0 r (List.replicate 24 ((0, 0), 0, 0))

def ref09_Clean (n : Nat) (r : Rewrite) : Option Rewrite := ref09_Clean.s n (fun f r_1 v2 => ref09_Clean.l0 n v2 n f r_1) r

def ref09_Then.s0 (n : Nat) (k0 : (Int → Rewrite → Option Rewrite)) (f : Int) (a_1 : Rewrite) (b_1 : Rewrite) (v4 : Rewrite) : Option Rewrite :=
  bif decide (f < 24) then
    bif inRange f 24 then
    bif inRange f 24 then
    obind (some (ref02_Less (List.getD a_1 (Int.toNat f) ((0, 0), 0, 0)).1 (List.getD b_1 (Int.toNat f) ((0, 0), 0, 0)).2)) fun (r79 : Wide) =>
    bif inRange f 24 then
    obind (some (ref02_Or r79 (List.getD b_1 (Int.toNat f) ((0, 0), 0, 0)).1)) fun (r80 : Wide) =>
    bif inRange f 24 then
    bif inRange f 24 then
    obind (some (ref02_Or (List.getD a_1 (Int.toNat f) ((0, 0), 0, 0)).2 (List.getD b_1 (Int.toNat f) ((0, 0), 0, 0)).2)) fun (r81 : Wide) =>
    bif inRange f 24 then
    k0 (IntKind.wrap .i64 (f + 1)) (List.set a_1 (Int.toNat f) (r80, r81))
    else none
    else none
    else none
    else none
    else none
    else none
  else
  some a_1

def ref09_Then.l0 (n : Nat) (b_1 : Rewrite) (v4 : Rewrite) : Nat → Int → Rewrite → Option Rewrite
  | 0, _, _ => none
  | m + 1, f, a_1 => ref09_Then.s0 n (fun f' a_1' => ref09_Then.l0 n b_1 v4 m f' a_1') f a_1 b_1 v4

def ref09_Then.s (n : Nat) (k0 : (Int → Rewrite → Rewrite → Rewrite → Option Rewrite)) (a : Rewrite) (b : Rewrite) : Option Rewrite :=
  obind (ref09_Clean n a) fun (r77 : Rewrite) =>
  obind (ref09_Clean n b) fun (r78 : Rewrite) =>
  k0 0 r77 r78 (List.replicate 24 ((0, 0), 0, 0))

def ref09_Then (n : Nat) (a : Rewrite) (b : Rewrite) : Option Rewrite := ref09_Then.s n (fun f a_1 b_1 v4 => ref09_Then.l0 n b_1 v4 n f a_1) a b

def rewrite_After_1 (i : Int) (c0 : Rewrite) (c1 : Rewrite) : Option Tern :=
  bif inRange i 24 then
  bif inRange i 24 then
  obind (some (rewrite_over (List.getD c0 (Int.toNat i) ((0, 0), 0, 0)) (List.getD c1 (Int.toNat i) ((0, 0), 0, 0)))) fun (r83 : Tern) =>
  some r83
  else none
  else none

def rewrite_After (n : Nat) (r : Rewrite) (c : Rewrite) : Option Rewrite :=
  obind (rewrite_each_Cube n (fun (x84 : Int) => rewrite_After_1 x84 c r)) fun (r85 : Rewrite) =>
  some r85

def ref09_After.s0 (n : Nat) (k0 : (Int → Rewrite → Option Rewrite)) (f : Int) (r_1 : Rewrite) (c_1 : Rewrite) (v4 : Rewrite) (out : Rewrite) : Option Rewrite :=
  bif decide (f < 24) then
    bif inRange f 24 then
    obind (some (ref05_Clean (List.getD c_1 (Int.toNat f) ((0, 0), 0, 0)))) fun (r87 : Tern) =>
    bif inRange f 24 then
    obind (some (ref02_Less r87.1 (List.getD r_1 (Int.toNat f) ((0, 0), 0, 0)).2)) fun (r88 : Wide) =>
    bif inRange f 24 then
    bif inRange f 24 then
    obind (some (ref02_And (List.getD r_1 (Int.toNat f) ((0, 0), 0, 0)).1 (List.getD r_1 (Int.toNat f) ((0, 0), 0, 0)).2)) fun (r89 : Wide) =>
    obind (some (ref02_Or r88 r89)) fun (r90 : Wide) =>
    bif inRange f 24 then
    obind (some (ref02_Or r87.2 (List.getD r_1 (Int.toNat f) ((0, 0), 0, 0)).2)) fun (r91 : Wide) =>
    bif inRange f 24 then
    k0 (IntKind.wrap .i64 (f + 1)) (List.set out (Int.toNat f) (r90, r91))
    else none
    else none
    else none
    else none
    else none
    else none
  else
  some out

def ref09_After.l0 (n : Nat) (r_1 : Rewrite) (c_1 : Rewrite) (v4 : Rewrite) : Nat → Int → Rewrite → Option Rewrite
  | 0, _, _ => none
  | m + 1, f, out => ref09_After.s0 n (fun f' out' => ref09_After.l0 n r_1 c_1 v4 m f' out') f r_1 c_1 v4 out

def ref09_After.s (n : Nat) (k0 : (Int → Rewrite → Rewrite → Rewrite → Rewrite → Option Rewrite)) (r : Rewrite) (c : Rewrite) : Option Rewrite :=
  k0 0 r c (List.replicate 24 ((0, 0), 0, 0)) ([((0, 0), 0, 0), ((0, 0), 0, 0), ((0, 0), 0, 0), ((0, 0), 0, 0), ((0, 0), 0, 0), ((0, 0), 0, 0), ((0, 0), 0, 0), ((0, 0), 0, 0), ((0, 0), 0, 0), ((0, 0), 0, 0), ((0, 0), 0, 0), ((0, 0), 0, 0), ((0, 0), 0, 0), ((0, 0), 0, 0), ((0, 0), 0, 0), ((0, 0), 0, 0), ((0, 0), 0, 0), ((0, 0), 0, 0), ((0, 0), 0, 0), ((0, 0), 0, 0), ((0, 0), 0, 0), ((0, 0), 0, 0), ((0, 0), 0, 0), ((0, 0), 0, 0)] : Rewrite)

def ref09_After (n : Nat) (r : Rewrite) (c : Rewrite) : Option Rewrite := ref09_After.s n (fun f r_1 c_1 v4 out => ref09_After.l0 n r_1 c_1 v4 n f out) r c

def rewrite_Clean_1 (i : Int) (c0 : Rewrite) : Option Tern :=
  bif inRange i 24 then
  obind (some (tern_Clean (List.getD c0 (Int.toNat i) ((0, 0), 0, 0)))) fun (r93 : Tern) =>
  some r93
  else none

def rewrite_Clean (n : Nat) (r : Rewrite) : Option Rewrite :=
  obind (rewrite_each_Rewrite n (fun (x94 : Int) => rewrite_Clean_1 x94 r)) fun (r95 : Rewrite) =>
  some r95

def rewrite_None : Rewrite :=
  ([((0, 0), 0, 0), ((0, 0), 0, 0), ((0, 0), 0, 0), ((0, 0), 0, 0), ((0, 0), 0, 0), ((0, 0), 0, 0), ((0, 0), 0, 0), ((0, 0), 0, 0), ((0, 0), 0, 0), ((0, 0), 0, 0), ((0, 0), 0, 0), ((0, 0), 0, 0), ((0, 0), 0, 0), ((0, 0), 0, 0), ((0, 0), 0, 0), ((0, 0), 0, 0), ((0, 0), 0, 0), ((0, 0), 0, 0), ((0, 0), 0, 0), ((0, 0), 0, 0), ((0, 0), 0, 0), ((0, 0), 0, 0), ((0, 0), 0, 0), ((0, 0), 0, 0)] : Rewrite)

def ref09_None : Rewrite :=
  ([((0, 0), 0, 0), ((0, 0), 0, 0), ((0, 0), 0, 0), ((0, 0), 0, 0), ((0, 0), 0, 0), ((0, 0), 0, 0), ((0, 0), 0, 0), ((0, 0), 0, 0), ((0, 0), 0, 0), ((0, 0), 0, 0), ((0, 0), 0, 0), ((0, 0), 0, 0), ((0, 0), 0, 0), ((0, 0), 0, 0), ((0, 0), 0, 0), ((0, 0), 0, 0), ((0, 0), 0, 0), ((0, 0), 0, 0), ((0, 0), 0, 0), ((0, 0), 0, 0), ((0, 0), 0, 0), ((0, 0), 0, 0), ((0, 0), 0, 0), ((0, 0), 0, 0)] : Rewrite)

def field_Right (f : Int) : Bool :=
  bif ((decide (f ≥ 0)) == true) then
    decide (f < 24)
  else
  false
def field_Right.o (f : Int) : Option Bool :=
  bif ((decide (f ≥ 0)) == true) then
    some (decide (f < 24))
  else
  some false
theorem field_Right.o_eq (f : Int) : field_Right.o f = some (field_Right f) := by simp only [field_Right.o, field_Right, cond_some, obind_some]

def rewrite_Set (n : Nat) (r : Rewrite) (f : Int) (value : Wide) (mask : Wide) : Option Rewrite :=
  obind (rewrite_Clean n r) fun (r101 : Rewrite) =>
  obind (some (field_Right f)) fun (r102 : Bool) =>
  bif r102 then
    bif inRange f 24 then
    obind (some (rewrite_over (List.getD r101 (Int.toNat f) ((0, 0), 0, 0)) (value, mask))) fun (r103 : Tern) =>
    bif inRange f 24 then
    some (List.set r101 (Int.toNat f) r103)
    else none
    else none
  else
  some r101

def cube_All : Rewrite :=
  ([((0, 0), 0, 0), ((0, 0), 0, 0), ((0, 0), 0, 0), ((0, 0), 0, 0), ((0, 0), 0, 0), ((0, 0), 0, 0), ((0, 0), 0, 0), ((0, 0), 0, 0), ((0, 0), 0, 0), ((0, 0), 0, 0), ((0, 0), 0, 0), ((0, 0), 0, 0), ((0, 0), 0, 0), ((0, 0), 0, 0), ((0, 0), 0, 0), ((0, 0), 0, 0), ((0, 0), 0, 0), ((0, 0), 0, 0), ((0, 0), 0, 0), ((0, 0), 0, 0), ((0, 0), 0, 0), ((0, 0), 0, 0), ((0, 0), 0, 0), ((0, 0), 0, 0)] : Rewrite)

def law09_awake (n : Nat) : Option Bool :=
  obind (some rewrite_None) fun (r100 : Rewrite) =>
  obind (rewrite_Set n r100 0 (0, 5) (0, 7)) fun (r104 : Rewrite) =>
  obind (rewrite_Before n r104 ([((0, 0), 0, 1), ((0, 0), 0, 0), ((0, 0), 0, 0), ((0, 0), 0, 0), ((0, 0), 0, 0), ((0, 0), 0, 0), ((0, 0), 0, 0), ((0, 0), 0, 0), ((0, 0), 0, 0), ((0, 0), 0, 0), ((0, 0), 0, 0), ((0, 0), 0, 0), ((0, 0), 0, 0), ((0, 0), 0, 0), ((0, 0), 0, 0), ((0, 0), 0, 0), ((0, 0), 0, 0), ((0, 0), 0, 0), ((0, 0), 0, 0), ((0, 0), 0, 0), ((0, 0), 0, 0), ((0, 0), 0, 0), ((0, 0), 0, 0), ((0, 0), 0, 0)] : Rewrite)) fun (r105 : (Rewrite × Bool)) =>
  obind (rewrite_Before n r104 ([((0, 9), 0, 9), ((0, 0), 0, 0), ((0, 0), 0, 0), ((0, 0), 0, 0), ((0, 0), 0, 0), ((0, 0), 0, 0), ((0, 0), 0, 0), ((0, 0), 0, 0), ((0, 0), 0, 0), ((0, 0), 0, 0), ((0, 0), 0, 0), ((0, 0), 0, 0), ((0, 0), 0, 0), ((0, 0), 0, 0), ((0, 0), 0, 0), ((0, 0), 0, 0), ((0, 0), 0, 0), ((0, 0), 0, 0), ((0, 0), 0, 0), ((0, 0), 0, 0), ((0, 0), 0, 0), ((0, 0), 0, 0), ((0, 0), 0, 0), ((0, 0), 0, 0)] : Rewrite)) fun (r106 : (Rewrite × Bool)) =>
  obind (rewrite_Apply n r104 ([(0, 8), (0, 0), (0, 0), (0, 0), (0, 0), (0, 0), (0, 0), (0, 0), (0, 0), (0, 0), (0, 0), (0, 0), (0, 0), (0, 0), (0, 0), (0, 0), (0, 0), (0, 0), (0, 0), (0, 0), (0, 0), (0, 0), (0, 0), (0, 0)] : Header)) fun (r107 : Header) =>
  bif (((List.getD r107 0 (0, 0)).2 == 13) == true) then
    bif ((!r105.2) == true) then
      bif (r106.2 == true) then
        bif (((List.getD r106.1 0 ((0, 0), 0, 0)).2.2 == 8) == true) then
          obind (some rewrite_None) fun (r108 : Rewrite) =>
          obind (rewrite_Then n r108 r104) fun (r109 : Rewrite) =>
          bif ((beqT TRewrite r109 r104) == true) then
            obind (some cube_All) fun (r110 : Rewrite) =>
            obind (rewrite_After n r104 r110) fun (r111 : Rewrite) =>
            bif (((List.getD r111 0 ((0, 0), 0, 0)).2.2 == 7) == true) then
              obind (rewrite_Clean n r104) fun (r112 : Rewrite) =>
              some (beqT TRewrite r112 r104)
            else
            some false
          else
          some false
        else
        some false
      else
      some false
    else
    some false
  else
  some false

def law09_awake.τs : List Ty := []

def law09_RewriteTells (n : Nat) (a : Rewrite) (b : Rewrite) (c : Rewrite) (h : Header) : Option Bool :=
  obind (rewrite_Before n a c) fun (r44 : (Rewrite × Bool)) =>
  obind (ref09_Before n a c) fun (r57 : (Rewrite × Bool)) =>
  bif ((beqT TRewrite r44.1 r57.1) == true) then
    bif ((r44.2 == r57.2) == true) then
      obind (rewrite_Apply n a h) fun (r61 : Header) =>
      obind (ref09_Apply n a h) fun (r65 : Header) =>
      bif ((beqT THeader r61 r65) == true) then
        obind (rewrite_Then n a b) fun (r75 : Rewrite) =>
        obind (ref09_Then n a b) fun (r82 : Rewrite) =>
        bif ((beqT TRewrite r75 r82) == true) then
          obind (rewrite_After n a c) fun (r86 : Rewrite) =>
          obind (ref09_After n a c) fun (r92 : Rewrite) =>
          bif ((beqT TRewrite r86 r92) == true) then
            obind (rewrite_Clean n a) fun (r96 : Rewrite) =>
            obind (ref09_Clean n a) fun (r97 : Rewrite) =>
            bif ((beqT TRewrite r96 r97) == true) then
              obind (some rewrite_None) fun (r98 : Rewrite) =>
              obind (some ref09_None) fun (r99 : Rewrite) =>
              bif ((beqT TRewrite r98 r99) == true) then
                obind (law09_awake n) fun (r113 : Bool) =>
                some r113
              else
              some false
            else
            some false
          else
          some false
        else
        some false
      else
      some false
    else
    some false
  else
  some false

def law09_RewriteTells.τs : List Ty := [TRewrite, TRewrite, TRewrite, THeader]

def ref03_Right (f : Int) : Bool :=
  bif ((decide (f ≥ 0)) == true) then
    decide (f < 24)
  else
  false
def ref03_Right.o (f : Int) : Option Bool :=
  bif ((decide (f ≥ 0)) == true) then
    some (decide (f < 24))
  else
  some false
theorem ref03_Right.o_eq (f : Int) : ref03_Right.o f = some (ref03_Right f) := by simp only [ref03_Right.o, ref03_Right, cond_some, obind_some]

def ref09_Set (n : Nat) (r : Rewrite) (f : Int) (value : Wide) (mask : Wide) : Option Rewrite :=
  obind (some (ref03_Right f)) fun (r115 : Bool) =>
  bif r115 then
    bif inRange f 24 then
    obind (ref09_Then n r (List.set ([((0, 0), 0, 0), ((0, 0), 0, 0), ((0, 0), 0, 0), ((0, 0), 0, 0), ((0, 0), 0, 0), ((0, 0), 0, 0), ((0, 0), 0, 0), ((0, 0), 0, 0), ((0, 0), 0, 0), ((0, 0), 0, 0), ((0, 0), 0, 0), ((0, 0), 0, 0), ((0, 0), 0, 0), ((0, 0), 0, 0), ((0, 0), 0, 0), ((0, 0), 0, 0), ((0, 0), 0, 0), ((0, 0), 0, 0), ((0, 0), 0, 0), ((0, 0), 0, 0), ((0, 0), 0, 0), ((0, 0), 0, 0), ((0, 0), 0, 0), ((0, 0), 0, 0)] : Rewrite) (Int.toNat f) (value, mask))) fun (r116 : Rewrite) =>
    some r116
    else none
  else
  obind (ref09_Then n r ([((0, 0), 0, 0), ((0, 0), 0, 0), ((0, 0), 0, 0), ((0, 0), 0, 0), ((0, 0), 0, 0), ((0, 0), 0, 0), ((0, 0), 0, 0), ((0, 0), 0, 0), ((0, 0), 0, 0), ((0, 0), 0, 0), ((0, 0), 0, 0), ((0, 0), 0, 0), ((0, 0), 0, 0), ((0, 0), 0, 0), ((0, 0), 0, 0), ((0, 0), 0, 0), ((0, 0), 0, 0), ((0, 0), 0, 0), ((0, 0), 0, 0), ((0, 0), 0, 0), ((0, 0), 0, 0), ((0, 0), 0, 0), ((0, 0), 0, 0), ((0, 0), 0, 0)] : Rewrite)) fun (r117 : Rewrite) =>
  some r117

def law09_RewriteSets (n : Nat) (r : Rewrite) (f : Int) (value : Wide) (mask : Wide) : Option Bool :=
  obind (rewrite_Set n r f value mask) fun (r114 : Rewrite) =>
  obind (ref09_Set n r f value mask) fun (r118 : Rewrite) =>
  bif ((beqT TRewrite r114 r118) == true) then
    obind (law09_awake n) fun (r119 : Bool) =>
    some r119
  else
  some false

def law09_RewriteSets.τs : List Ty := [TRewrite, (.int .i64), TWide, TWide]

def law09_RewriteThen (n : Nat) (a : Rewrite) (b : Rewrite) (c : Rewrite) (h : Header) : Option Bool :=
  obind (rewrite_Then n a b) fun (r120 : Rewrite) =>
  obind (rewrite_Apply n r120 h) fun (r121 : Header) =>
  obind (rewrite_Apply n a h) fun (r122 : Header) =>
  obind (rewrite_Apply n b r122) fun (r123 : Header) =>
  bif ((beqT THeader r121 r123) == true) then
    obind (rewrite_Then n a b) fun (r124 : Rewrite) =>
    obind (rewrite_Then n r124 c) fun (r125 : Rewrite) =>
    obind (rewrite_Then n b c) fun (r126 : Rewrite) =>
    obind (rewrite_Then n a r126) fun (r127 : Rewrite) =>
    bif ((beqT TRewrite r125 r127) == true) then
      obind (law09_awake n) fun (r128 : Bool) =>
      some r128
    else
    some false
  else
  some false

def law09_RewriteThen.τs : List Ty := [TRewrite, TRewrite, TRewrite, THeader]

def cube_Has.s0 (n : Nat) (k0 : (Int → Option Bool)) (v7 : Rewrite) (v8 : Int) (h_1 : Header) : Option Bool :=
  bif decide (v8 < 24) then
    bif inRange v8 24 then
    bif inRange v8 24 then
    obind (some (tern_Has (List.getD v7 (Int.toNat v8) ((0, 0), 0, 0)) (List.getD h_1 (Int.toNat v8) (0, 0)))) fun (r131 : Bool) =>
    bif !r131 then
      some false
    else
    k0 (IntKind.wrap .i64 (v8 + 1))
    else none
    else none
  else
  some true

def cube_Has.l0 (n : Nat) (v7 : Rewrite) (h_1 : Header) : Nat → Int → Option Bool
  | 0, _ => none
  | m + 1, v8 => cube_Has.s0 n (fun v8' => cube_Has.l0 n v7 h_1 m v8') v7 v8 h_1

def cube_Has.s (n : Nat) (k0 : (Rewrite → Int → Header → Option Bool)) (c : Rewrite) (h : Header) : Option Bool :=
  k0 c 0 h

def cube_Has (n : Nat) (c : Rewrite) (h : Header) : Option Bool := cube_Has.s n (fun v7 v8 h_1 => cube_Has.l0 n v7 h_1 n v8) c h

def law09_RewriteBefore (n : Nat) (r : Rewrite) (c : Rewrite) (h : Header) : Option Bool :=
  obind (rewrite_Before n r c) fun (r129 : (Rewrite × Bool)) =>
  obind (rewrite_Apply n r h) fun (r130 : Header) =>
  obind (cube_Has n c r130) fun (r132 : Bool) =>
  bif (r129.2 == true) then
    obind (cube_Has n r129.1 h) fun (r133 : Bool) =>
    bif ((r132 == r133) == true) then
      obind (law09_awake n) fun (r134 : Bool) =>
      some r134
    else
    some false
  else
  bif ((r132 == false) == true) then
    obind (law09_awake n) fun (r135 : Bool) =>
    some r135
  else
  some false

def law09_RewriteBefore.τs : List Ty := [TRewrite, TRewrite, THeader]

def law09_RewriteAfter (n : Nat) (r : Rewrite) (c : Rewrite) (h : Header) : Option Bool :=
  obind (rewrite_Apply n r h) fun (r136 : Header) =>
  obind (cube_Has n c h) fun (r137 : Bool) =>
  bif ((!r137) == false) then
    obind (rewrite_After n r c) fun (r138 : Rewrite) =>
    obind (cube_Has n r138 r136) fun (r139 : Bool) =>
    bif (r139 == true) then
      obind (rewrite_Apply n r r136) fun (r140 : Header) =>
      bif ((beqT THeader r140 r136) == true) then
        obind (law09_awake n) fun (r141 : Bool) =>
        some r141
      else
      some false
    else
    some false
  else
  obind (rewrite_Apply n r r136) fun (r142 : Header) =>
  bif ((beqT THeader r142 r136) == true) then
    obind (law09_awake n) fun (r143 : Bool) =>
    some r143
  else
  some false

def law09_RewriteAfter.τs : List Ty := [TRewrite, TRewrite, THeader]

def slices_Index_int.s0 (n : Nat) (k0 : (Int → Option Int)) (s_1 : (List Int)) (v_1 : Int) (v7 : Int) (v8 : Int) : Option Int :=
  bif decide (v8 < v7) then
    bif inRange v8 (List.length s_1) then
    bif (v_1 == (List.getD s_1 (Int.toNat v8) 0)) then
      some v8
    else
    k0 (IntKind.wrap .i64 (v8 + 1))
    else none
  else
  some (-1)

def slices_Index_int.l0 (n : Nat) (s_1 : (List Int)) (v_1 : Int) (v7 : Int) : Nat → Int → Option Int
  | 0, _ => none
  | m + 1, v8 => slices_Index_int.s0 n (fun v8' => slices_Index_int.l0 n s_1 v_1 v7 m v8') s_1 v_1 v7 v8

def slices_Index_int.s (n : Nat) (k0 : ((List Int) → Int → Int → Int → Option Int)) (s : (List Int)) (v : Int) : Option Int :=
  k0 s v ((List.length s : Nat) : Int) 0

def slices_Index_int (n : Nat) (s : (List Int)) (v : Int) : Option Int := slices_Index_int.s n (fun s_1 v_1 v7 v8 => slices_Index_int.l0 n s_1 v_1 v7 n v8) s v

def slices_Contains_int (n : Nat) (s : (List Int)) (v : Int) : Option Bool :=
  obind (slices_Index_int n s v) fun (r144 : Int) =>
  some (decide (r144 ≥ 0))

def env_Up (n : Nat) (e : Env) (port : Int) : Option Bool :=
  obind (slices_Contains_int n e.2 port) fun (r145 : Bool) =>
  some (!r145)

def env_Which (e : Env) (n1 : Int) : Option Int :=
  bif decide (n1 < 1) then
    some 0
  else
  bif !(n1 == 0) then
  bif decide ((Int.tmod e.1 n1) < 0) then
    some (IntKind.wrap .i64 ((Int.tmod e.1 n1) + n1))
  else
  some (Int.tmod e.1 n1)
  else none

def env_world_up_1 (n : Nat) (x : Bucket) (c0 : World) : Option Bool :=
  obind (env_Up n c0.1 x.2.1) fun (r150 : Bool) =>
  some r150

def slices_IndexFunc_Bucket.s0 (n : Nat) (k0 : (Int → Option Int)) (s_1 : (List Bucket)) (f_1 : (Bucket → Option Bool)) (v7 : Int) (v8 : Int) : Option Int :=
  bif decide (v8 < v7) then
    bif inRange v8 (List.length s_1) then
    obind (f_1 (List.getD s_1 (Int.toNat v8) (0, 0, 0, ([] : (List Action))))) fun (r152 : Bool) =>
    bif r152 then
      some v8
    else
    k0 (IntKind.wrap .i64 (v8 + 1))
    else none
  else
  some (-1)

def slices_IndexFunc_Bucket.l0 (n : Nat) (s_1 : (List Bucket)) (f_1 : (Bucket → Option Bool)) (v7 : Int) : Nat → Int → Option Int
  | 0, _ => none
  | m + 1, v8 => slices_IndexFunc_Bucket.s0 n (fun v8' => slices_IndexFunc_Bucket.l0 n s_1 f_1 v7 m v8') s_1 f_1 v7 v8

def slices_IndexFunc_Bucket.s (n : Nat) (k0 : ((List Bucket) → (Bucket → Option Bool) → Int → Int → Option Int)) (s : (List Bucket)) (f : (Bucket → Option Bool)) : Option Int :=
  k0 s f ((List.length s : Nat) : Int) 0

def slices_IndexFunc_Bucket (n : Nat) (s : (List Bucket)) (f : (Bucket → Option Bool)) : Option Int := slices_IndexFunc_Bucket.s n (fun s_1 f_1 v7 v8 => slices_IndexFunc_Bucket.l0 n s_1 f_1 v7 n v8) s f

def env_world_up (n : Nat) (w : World) : Option Int :=
  obind (slices_IndexFunc_Bucket n w.2.2.2 (fun (x151 : Bucket) => env_world_up_1 n x151 w)) fun (r153 : Int) =>
  some r153

def env_Takes.s0 (n : Nat) (k0 : ((List Int) → Int → Option (List Int))) (out : (List Int)) (v25 : Int) (v26 : Int) : Option (List Int) :=
  bif decide (v26 < v25) then
    bif decide ((List.length out + List.length ([v26] : (List Int))) * 8 ≤ 140737488355328) then
    k0 (out ++ ([v26] : (List Int))) (IntKind.wrap .i64 (v26 + 1))
    else none
  else
  some out

def env_Takes.l0 (n : Nat) (v25 : Int) : Nat → (List Int) → Int → Option (List Int)
  | 0, _, _ => none
  | m + 1, out, v26 => env_Takes.s0 n (fun out' v26' => env_Takes.l0 n v25 m out' v26') out v25 v26

def env_Takes.s (n : Nat) (k0 : ((List Int) → Int → Int → Option (List Int))) (e : Env) (g : Group) : Option (List Int) :=
  bif (((List.length g.2.2 : Nat) : Int) == 0) then
    some ([] : (List Int))
  else
  bif (g.2.1 == 0) then
    k0 ([] : (List Int)) ((List.length g.2.2 : Nat) : Int) 0
  else
  bif (g.2.1 == 1) then
    obind (env_Which e ((List.length g.2.2 : Nat) : Int)) fun (r149 : Int) =>
    some ([r149] : (List Int))
  else
  bif (g.2.1 == 2) then
    some ([0] : (List Int))
  else
  bif (g.2.1 == 3) then
    obind (env_world_up n (e, g)) fun (r154 : Int) =>
    bif decide (r154 ≥ 0) then
      some ([r154] : (List Int))
    else
    some ([] : (List Int))
  else
  some ([] : (List Int))

def env_Takes (n : Nat) (e : Env) (g : Group) : Option (List Int) := env_Takes.s n (fun out v25 v26 => env_Takes.l0 n v25 n out v26) e g

def slices_Equal_int.s0 (n : Nat) (k0 : (Int → Option Bool)) (s1_1 : (List Int)) (s2_1 : (List Int)) (v12 : Int) (v13 : Int) : Option Bool :=
  bif decide (v13 < v12) then
    bif inRange v13 (List.length s1_1) then
    bif inRange v13 (List.length s2_1) then
    bif ((List.getD s1_1 (Int.toNat v13) 0) != (List.getD s2_1 (Int.toNat v13) 0)) then
      some false
    else
    k0 (IntKind.wrap .i64 (v13 + 1))
    else none
    else none
  else
  some true

def slices_Equal_int.l0 (n : Nat) (s1_1 : (List Int)) (s2_1 : (List Int)) (v12 : Int) : Nat → Int → Option Bool
  | 0, _ => none
  | m + 1, v13 => slices_Equal_int.s0 n (fun v13' => slices_Equal_int.l0 n s1_1 s2_1 v12 m v13') s1_1 s2_1 v12 v13

def slices_Equal_int.s (n : Nat) (k0 : ((List Int) → (List Int) → Int → Int → Option Bool)) (s1 : (List Int)) (s2 : (List Int)) : Option Bool :=
  bif (((List.length s1 : Nat) : Int) != ((List.length s2 : Nat) : Int)) then
    some false
  else
  k0 s1 s2 ((List.length s1 : Nat) : Int) 0

def slices_Equal_int (n : Nat) (s1 : (List Int)) (s2 : (List Int)) : Option Bool := slices_Equal_int.s n (fun s1_1 s2_1 v12 v13 => slices_Equal_int.l0 n s1_1 s2_1 v12 n v13) s1 s2

def law29_awake (n : Nat) : Option Bool :=
  obind (env_Up n ((-1), ([1] : (List Int))) 1) fun (r146 : Bool) =>
  bif ((!r146) == true) then
    obind (env_Up n ((-1), ([1] : (List Int))) 2) fun (r147 : Bool) =>
    bif (r147 == true) then
      obind (env_Which ((-1), ([1] : (List Int))) 3) fun (r148 : Int) =>
      bif ((r148 == 2) == true) then
        obind (env_Takes n ((-1), ([1] : (List Int))) (0, 3, ([(0, 1, 0, ([] : (List Action))), (0, 2, 0, ([] : (List Action))), (0, 3, 0, ([] : (List Action)))] : (List Bucket)))) fun (r155 : (List Int)) =>
        obind (slices_Equal_int n r155 ([1] : (List Int))) fun (r156 : Bool) =>
        bif (r156 == true) then
          obind (env_Takes n ((-1), ([1] : (List Int))) (0, 0, ([(0, 1, 0, ([] : (List Action))), (0, 2, 0, ([] : (List Action))), (0, 3, 0, ([] : (List Action)))] : (List Bucket)))) fun (r157 : (List Int)) =>
          obind (slices_Equal_int n r157 ([0, 1, 2] : (List Int))) fun (r158 : Bool) =>
          some r158
        else
        some false
      else
      some false
    else
    some false
  else
  some false

def law29_awake.τs : List Ty := []

def ref29_Up.s0 (n : Nat) (k0 : (Int → Option Bool)) (port_1 : Int) (i : Int) (e_1 : Env) : Option Bool :=
  bif decide (i < ((List.length e_1.2 : Nat) : Int)) then
    bif inRange i (List.length e_1.2) then
    bif ((List.getD e_1.2 (Int.toNat i) 0) == port_1) then
      some false
    else
    k0 (IntKind.wrap .i64 (i + 1))
    else none
  else
  some true

def ref29_Up.l0 (n : Nat) (port_1 : Int) (e_1 : Env) : Nat → Int → Option Bool
  | 0, _ => none
  | m + 1, i => ref29_Up.s0 n (fun i' => ref29_Up.l0 n port_1 e_1 m i') port_1 i e_1

def ref29_Up.s (n : Nat) (k0 : (Int → Int → Env → Option Bool)) (e : Env) (port : Int) : Option Bool :=
  k0 port 0 e

def ref29_Up (n : Nat) (e : Env) (port : Int) : Option Bool := ref29_Up.s n (fun port_1 i e_1 => ref29_Up.l0 n port_1 e_1 n i) e port

def ref29_Which (e : Env) (n1 : Int) : Option Int :=
  bif decide (n1 < 1) then
    some 0
  else
  bif !(n1 == 0) then
  bif decide ((Int.tmod e.1 n1) < 0) then
    some (IntKind.wrap .i64 ((Int.tmod e.1 n1) + n1))
  else
  some (Int.tmod e.1 n1)
  else none

def ref29_Takes.s0 (n : Nat) (k0 : ((List Int) → Int → Option (List Int))) (out : (List Int)) (i : Int) (e_1 : Env) (g_1 : Group) : Option (List Int) :=
  bif decide (i < ((List.length g_1.2.2 : Nat) : Int)) then
    bif (g_1.2.1 == 0) then
      bif decide ((List.length out + List.length ([i] : (List Int))) * 8 ≤ 140737488355328) then
      k0 (out ++ ([i] : (List Int))) (IntKind.wrap .i64 (i + 1))
      else none
    else
    bif (g_1.2.1 == 1) then
      obind (ref29_Which e_1 ((List.length g_1.2.2 : Nat) : Int)) fun (r165 : Int) =>
      bif (i == r165) then
        bif decide ((List.length out + List.length ([i] : (List Int))) * 8 ≤ 140737488355328) then
        k0 (out ++ ([i] : (List Int))) (IntKind.wrap .i64 (i + 1))
        else none
      else
      k0 out (IntKind.wrap .i64 (i + 1))
    else
    bif (g_1.2.1 == 2) then
      bif (i == 0) then
        bif decide ((List.length out + List.length ([i] : (List Int))) * 8 ≤ 140737488355328) then
        k0 (out ++ ([i] : (List Int))) (IntKind.wrap .i64 (i + 1))
        else none
      else
      k0 out (IntKind.wrap .i64 (i + 1))
    else
    bif (g_1.2.1 == 3) then
      bif ((((List.length out : Nat) : Int) == 0) == true) then
        bif inRange i (List.length g_1.2.2) then
        obind (ref29_Up n e_1 (List.getD g_1.2.2 (Int.toNat i) (0, 0, 0, ([] : (List Action)))).2.1) fun (r166 : Bool) =>
        bif r166 then
          bif decide ((List.length out + List.length ([i] : (List Int))) * 8 ≤ 140737488355328) then
          k0 (out ++ ([i] : (List Int))) (IntKind.wrap .i64 (i + 1))
          else none
        else
        k0 out (IntKind.wrap .i64 (i + 1))
        else none
      else
      k0 out (IntKind.wrap .i64 (i + 1))
    else
    k0 out (IntKind.wrap .i64 (i + 1))
  else
  some out

def ref29_Takes.l0 (n : Nat) (e_1 : Env) (g_1 : Group) : Nat → (List Int) → Int → Option (List Int)
  | 0, _, _ => none
  | m + 1, out, i => ref29_Takes.s0 n (fun out' i' => ref29_Takes.l0 n e_1 g_1 m out' i') out i e_1 g_1

def ref29_Takes.s (n : Nat) (k0 : ((List Int) → Int → Env → Group → Option (List Int))) (e : Env) (g : Group) : Option (List Int) :=
  k0 ([] : (List Int)) 0 e g

def ref29_Takes (n : Nat) (e : Env) (g : Group) : Option (List Int) := ref29_Takes.s n (fun out i e_1 g_1 => ref29_Takes.l0 n e_1 g_1 n out i) e g

def law29_EnvTells (n : Nat) (e : Env) (port : Int) (n2 : Int) (g : Group) : Option Bool :=
  bif ((decide (((List.length e.2 : Nat) : Int) > 100)) == false) then
    bif decide (((List.length g.2.2 : Nat) : Int) > 100) then
      obind (law29_awake n) fun (r159 : Bool) =>
      some r159
    else
    obind (env_Up n e port) fun (r160 : Bool) =>
    obind (ref29_Up n e port) fun (r161 : Bool) =>
    bif ((r160 == r161) == true) then
      obind (env_Which e n2) fun (r162 : Int) =>
      obind (ref29_Which e n2) fun (r163 : Int) =>
      bif ((r162 == r163) == true) then
        obind (env_Takes n e g) fun (r164 : (List Int)) =>
        obind (ref29_Takes n e g) fun (r167 : (List Int)) =>
        obind (slices_Equal_int n r164 r167) fun (r168 : Bool) =>
        bif (r168 == true) then
          obind (law29_awake n) fun (r169 : Bool) =>
          some r169
        else
        some false
      else
      some false
    else
    some false
  else
  obind (law29_awake n) fun (r170 : Bool) =>
  some r170

def law29_EnvTells.τs : List Ty := [TEnv, (.int .i64), (.int .i64), TGroup]

def law29_EnvTurns (n : Nat) (turn : Int) (k1 : Int) (times : Int) : Option Bool :=
  let y0 : Int := IntKind.wrap .i64 (1 + (IntKind.wrap .i64 k1))
  obind (env_Which (IntKind.wrap .i64 turn, ([] : (List Int))) y0) fun (r171 : Int) =>
  obind (env_Which (IntKind.wrap .i64 ((IntKind.wrap .i64 turn) + (IntKind.wrap .i64 (y0 * (IntKind.wrap .i64 times)))), ([] : (List Int))) y0) fun (r172 : Int) =>
  bif (r171 != r172) then
    some false
  else
  obind (env_Which (IntKind.wrap .i64 ((IntKind.wrap .i64 turn) + 1), ([] : (List Int))) y0) fun (r173 : Int) =>
  obind (env_Which (IntKind.wrap .i64 turn, ([] : (List Int))) y0) fun (r174 : Int) =>
  bif !(y0 == 0) then
  bif ((r173 == (Int.tmod (IntKind.wrap .i64 (r174 + 1)) y0)) == true) then
    obind (law29_awake n) fun (r175 : Bool) =>
    some r175
  else
  some false
  else none

def law29_EnvTurns.τs : List Ty := [(.int .i32), (.int .u8), (.int .i16)]

def law29_EnvFast_1 (n : Nat) (x : Bucket) (c0 : Env) : Option Bool :=
  obind (slices_Contains_int n c0.2 x.2.1) fun (r177 : Bool) =>
  some (!r177)

def law29_EnvFast (n : Nat) (e : Env) (l : (List Bucket)) : Option Bool :=
  bif ((decide (((List.length e.2 : Nat) : Int) > 100)) == false) then
    bif decide (((List.length l : Nat) : Int) > 100) then
      obind (law29_awake n) fun (r176 : Bool) =>
      some r176
    else
    obind (slices_IndexFunc_Bucket n l (fun (x178 : Bucket) => law29_EnvFast_1 n x178 e)) fun (r179 : Int) =>
    obind (env_Takes n e (0, 3, l)) fun (r180 : (List Int)) =>
    bif decide (r179 < 0) then
      bif ((((List.length r180 : Nat) : Int) == 0) == true) then
        obind (law29_awake n) fun (r181 : Bool) =>
        some r181
      else
      some false
    else
    bif ((((List.length r180 : Nat) : Int) == 1) == true) then
      bif inRange 0 (List.length r180) then
      bif (((List.getD r180 0 0) == r179) == true) then
        obind (law29_awake n) fun (r182 : Bool) =>
        some r182
      else
      some false
      else none
    else
    some false
  else
  obind (law29_awake n) fun (r183 : Bool) =>
  some r183

def law29_EnvFast.τs : List Ty := [TEnv, (.slc TBucket)]

def law29_EnvSelect (n : Nat) (e : Env) (l : (List Bucket)) : Option Bool :=
  bif decide (((List.length l : Nat) : Int) > 100) then
    obind (law29_awake n) fun (r184 : Bool) =>
    some r184
  else
  obind (env_Takes n e (0, 1, l)) fun (r185 : (List Int)) =>
  bif (((List.length l : Nat) : Int) == 0) then
    bif ((((List.length r185 : Nat) : Int) == 0) == true) then
      obind (law29_awake n) fun (r186 : Bool) =>
      some r186
    else
    some false
  else
  bif ((((List.length r185 : Nat) : Int) == 1) == true) then
    bif inRange 0 (List.length r185) then
    obind (env_Which e ((List.length l : Nat) : Int)) fun (r187 : Int) =>
    bif (((List.getD r185 0 0) == r187) == true) then
      bif inRange 0 (List.length r185) then
      bif ((decide ((List.getD r185 0 0) ≥ 0)) == true) then
        bif inRange 0 (List.length r185) then
        bif ((decide ((List.getD r185 0 0) < ((List.length l : Nat) : Int))) == true) then
          obind (law29_awake n) fun (r188 : Bool) =>
          some r188
        else
        some false
        else none
      else
      some false
      else none
    else
    some false
    else none
  else
  some false

def law29_EnvSelect.τs : List Ty := [TEnv, (.slc TBucket)]

end Go.Fn
