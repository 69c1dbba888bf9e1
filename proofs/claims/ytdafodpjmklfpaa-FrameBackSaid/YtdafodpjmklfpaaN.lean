/- What the functions compute, as native texts: written by the session's program gen.py out of the translation. -/
import Derived.Test.YtdafodpjmklfpaaViB
set_option linter.unusedVariables false
namespace Go.Fn
open Go Go.Vi

abbrev Wide := (Int × Int)
abbrev TWide : Ty := (.pair (.int .u64) (.int .u64))
abbrev Fault := (Bool × (Int × Int))
abbrev TFault : Ty := (.pair .bool (.pair (.int .i64) (.int .i64)))

def wide_Bit (i : Int) : Option Wide :=
  bif ((decide (i < 0)) == false) then
    bif decide (i > 127) then
      some (0, 0)
    else
    bif !(decide ((Int.tmod i 64) < 0)) then
    bif inRange (IntKind.wrap .i64 (Int.tdiv i 64)) 2 then
    let y0 : (List Int) := List.set (List.replicate 2 0) (Int.toNat (IntKind.wrap .i64 (Int.tdiv i 64))) (shlI .u64 1 (Int.tmod i 64))
    some (List.getD y0 1 0, List.getD y0 0 0)
    else none
    else none
  else
  some (0, 0)

def ref02_Bit (i : Int) : Option Wide :=
  bif ((decide (i < 0)) == false) then
    bif decide (i > 127) then
      some (0, 0)
    else
    bif decide (i < 64) then
      bif !(decide ((IntKind.wrap .u64 i) < 0)) then
      some (0, shlI .u64 1 (IntKind.wrap .u64 i))
      else none
    else
    let y0 : Int := IntKind.wrap .u64 (IntKind.wrap .i64 (i - 64))
    bif !(decide (y0 < 0)) then
    some (shlI .u64 1 y0, 0)
    else none
  else
  some (0, 0)

def wide_And (a : Wide) (b : Wide) : Wide :=
  (bitsI .and .u64 a.1 b.1, bitsI .and .u64 a.2 b.2)

def wide_Zero (a : Wide) : Bool :=
  ((bitsI .or .u64 a.1 a.2) == 0)

def wide_Has (a : Wide) (i : Int) : Option Bool :=
  obind (wide_Bit i) fun (r3 : Wide) =>
  obind (some (wide_And a r3)) fun (r4 : Wide) =>
  obind (some (wide_Zero r4)) fun (r5 : Bool) =>
  some (!r5)

def ref02_And (a : Wide) (b : Wide) : Wide :=
  (bitsI .and .u64 a.1 b.1, bitsI .and .u64 a.2 b.2)

def ref02_Zero (a : Wide) : Bool :=
  bif ((a.1 == 0) == true) then
    (a.2 == 0)
  else
  false
def ref02_Zero.o (a : Wide) : Option Bool :=
  bif ((a.1 == 0) == true) then
    some (a.2 == 0)
  else
  some false
theorem ref02_Zero.o_eq (a : Wide) : ref02_Zero.o a = some (ref02_Zero a) := by simp only [ref02_Zero.o, ref02_Zero, cond_some, obind_some]

def ref02_Has (a : Wide) (i : Int) : Option Bool :=
  obind (ref02_Bit i) fun (r7 : Wide) =>
  obind (some (ref02_And a r7)) fun (r8 : Wide) =>
  obind (some (ref02_Zero r8)) fun (r9 : Bool) =>
  some (!r9)

def wide_low (n0 : Int) : Option Int :=
  bif decide (n0 ≥ 64) then
    some 18446744073709551615
  else
  bif !(decide ((maxI n0 0) < 0)) then
  some (IntKind.wrap .u64 ((shlI .u64 1 (maxI n0 0)) - 1))
  else none

def wide_Low (n0 : Int) : Option Wide :=
  let y0 : Int := minI (maxI n0 0) 128
  obind (wide_low (IntKind.wrap .i64 (y0 - 64))) fun (r11 : Int) =>
  obind (wide_low y0) fun (r12 : Int) =>
  some (r11, r12)

def ref02_Or (a : Wide) (b : Wide) : Wide :=
  (bitsI .or .u64 a.1 b.1, bitsI .or .u64 a.2 b.2)

def ref02_Low.s0 (n : Nat) (k0 : (Int → Wide → Option Wide)) (n0_1 : Int) (i : Int) (v2 : Wide) (out : Wide) : Option Wide :=
  bif ((decide (i < n0_1)) == true) then
    bif decide (i < 128) then
      obind (ref02_Bit i) fun (r14 : Wide) =>
      obind (some (ref02_Or out r14)) fun (r15 : Wide) =>
      k0 (IntKind.wrap .i64 (i + 1)) r15
    else
    some out
  else
  some out

def ref02_Low.l0 (n : Nat) (n0_1 : Int) (v2 : Wide) : Nat → Int → Wide → Option Wide
  | 0, _, _ => none
  | m + 1, i, out => ref02_Low.s0 n (fun i' out' => ref02_Low.l0 n n0_1 v2 m i' out') n0_1 i v2 out

def ref02_Low.s (n : Nat) (k0 : (Int → Int → Wide → Wide → Option Wide)) (n0 : Int) : Option Wide :=
  k0 n0 0 (0, 0) (0, 0)

def ref02_Low (n : Nat) (n0 : Int) : Option Wide := ref02_Low.s n (fun n0_1 i v2 out => ref02_Low.l0 n n0_1 v2 n i out) n0

def math_bits_OnesCount64 (x : Int) : Int :=
  let y0 : Int := IntKind.wrap .u64 ((bitsI .and .u64 (shrI .u64 x 1) 6148914691236517205) + (bitsI .and .u64 x 6148914691236517205))
  let y1 : Int := IntKind.wrap .u64 ((bitsI .and .u64 (shrI .u64 y0 2) 3689348814741910323) + (bitsI .and .u64 y0 3689348814741910323))
  let y2 : Int := bitsI .and .u64 (IntKind.wrap .u64 ((shrI .u64 y1 4) + y1)) 1085102592571150095
  let y3 : Int := IntKind.wrap .u64 (y2 + (shrI .u64 y2 8))
  let y4 : Int := IntKind.wrap .u64 (y3 + (shrI .u64 y3 16))
  bitsI .and .i64 (IntKind.wrap .i64 (IntKind.wrap .u64 (y4 + (shrI .u64 y4 32)))) 127

def wide_Many (a : Wide) : Int :=
  let r20 : Int := math_bits_OnesCount64 a.1
  let r21 : Int := math_bits_OnesCount64 a.2
  IntKind.wrap .i64 (r20 + r21)

def wide_Put.s0 (n : Nat) (k0 : (Int → (List Int) → Option (List Int))) (b_1 : (List Int)) (size_1 : Int) (v10 : Int) (a_1 : Wide) (x : (List Int)) : Option (List Int) :=
  bif decide (v10 < 8) then
    let y0 : Int := IntKind.wrap .i64 (56 - (IntKind.wrap .i64 (8 * v10)))
    bif !(decide (y0 < 0)) then
    let y1 : Int := IntKind.wrap .i64 (56 - (IntKind.wrap .i64 (8 * v10)))
    bif !(decide (y1 < 0)) then
    bif inRange v10 16 then
    bif inRange (IntKind.wrap .i64 (8 + v10)) 16 then
    k0 (IntKind.wrap .i64 (v10 + 1)) (List.set (List.set x (Int.toNat v10) (IntKind.wrap .u8 (shrI .u64 a_1.1 y0))) (Int.toNat (IntKind.wrap .i64 (8 + v10))) (IntKind.wrap .u8 (shrI .u64 a_1.2 y1)))
    else none
    else none
    else none
    else none
  else
  bif decide ((List.length ([] : (List Int)) + List.length b_1) * 1 ≤ 140737488355328) then
  let y2 : Int := minI (maxI size_1 0) 16
  let y3 : Int := IntKind.wrap .i64 (16 - y2)
  bif ((decide (0 ≤ y3)) && (decide (y3 ≤ ((List.length x : Nat) : Int)))) then
  let y4 : Nat := Int.toNat y3
  let y5 : (List Int) := List.drop y4 x
  bif decide ((List.length (([] : (List Int)) ++ b_1) + List.length y5) * 1 ≤ 140737488355328) then
  some ((([] : (List Int)) ++ b_1) ++ y5)
  else none
  else none
  else none

def wide_Put.l0 (n : Nat) (b_1 : (List Int)) (size_1 : Int) (a_1 : Wide) : Nat → Int → (List Int) → Option (List Int)
  | 0, _, _ => none
  | m + 1, v10, x => wide_Put.s0 n (fun v10' x' => wide_Put.l0 n b_1 size_1 a_1 m v10' x') b_1 size_1 v10 a_1 x

def wide_Put.s (n : Nat) (k0 : ((List Int) → Int → Int → Wide → (List Int) → Option (List Int))) (b : (List Int)) (a : Wide) (size : Int) : Option (List Int) :=
  k0 b size 0 a (List.replicate 16 0)

def wide_Put (n : Nat) (b : (List Int)) (a : Wide) (size : Int) : Option (List Int) := wide_Put.s n (fun b_1 size_1 v10 a_1 x => wide_Put.l0 n b_1 size_1 a_1 n v10 x) b a size

def slices_Equal_byte.s0 (n : Nat) (k0 : (Int → Option Bool)) (s1_1 : (List Int)) (s2_1 : (List Int)) (v12 : Int) (v13 : Int) : Option Bool :=
  bif decide (v13 < v12) then
    bif inRange v13 (List.length s1_1) then
    bif inRange v13 (List.length s2_1) then
    bif ((List.getD s1_1 (Int.toNat v13) 0) != (List.getD s2_1 (Int.toNat v13) 0)) then
      some false
    else
    k0 (IntKind.wrap .i64 (v13 + 1))
    else none
    else none
  else
  some true

def slices_Equal_byte.l0 (n : Nat) (s1_1 : (List Int)) (s2_1 : (List Int)) (v12 : Int) : Nat → Int → Option Bool
  | 0, _ => none
  | m + 1, v13 => slices_Equal_byte.s0 n (fun v13' => slices_Equal_byte.l0 n s1_1 s2_1 v12 m v13') s1_1 s2_1 v12 v13

def slices_Equal_byte.s (n : Nat) (k0 : ((List Int) → (List Int) → Int → Int → Option Bool)) (s1 : (List Int)) (s2 : (List Int)) : Option Bool :=
  bif (((List.length s1 : Nat) : Int) != ((List.length s2 : Nat) : Int)) then
    some false
  else
  k0 s1 s2 ((List.length s1 : Nat) : Int) 0

def slices_Equal_byte (n : Nat) (s1 : (List Int)) (s2 : (List Int)) : Option Bool := slices_Equal_byte.s n (fun s1_1 s2_1 v12 v13 => slices_Equal_byte.l0 n s1_1 s2_1 v12 n v13) s1 s2

def law02_awake (n : Nat) : Option Bool :=
  obind (wide_Low 4) fun (r17 : Wide) =>
  bif ((beqT TWide r17 (0, 15)) == true) then
    obind (wide_Bit 64) fun (r18 : Wide) =>
    bif ((beqT TWide r18 (1, 0)) == true) then
      obind (wide_Low 128) fun (r19 : Wide) =>
      obind (some (wide_Many r19)) fun (r22 : Int) =>
      bif ((r22 == 128) == true) then
        obind (some (wide_Zero (0, 0))) fun (r23 : Bool) =>
        bif (r23 == true) then
          obind (wide_Has (2, 0) 65) fun (r24 : Bool) =>
          bif (r24 == true) then
            obind (wide_Put n ([] : (List Int)) (0, 258) 2) fun (r25 : (List Int)) =>
            obind (slices_Equal_byte n r25 ([1, 2] : (List Int))) fun (r26 : Bool) =>
            some r26
          else
          some false
        else
        some false
      else
      some false
    else
    some false
  else
  some false

def law02_awake.τs : List Ty := []

def law02_WideOne (n : Nat) (a : Wide) (i : Int) : Option Bool :=
  obind (wide_Bit i) fun (r1 : Wide) =>
  obind (ref02_Bit i) fun (r2 : Wide) =>
  bif ((beqT TWide r1 r2) == true) then
    obind (wide_Has a i) fun (r6 : Bool) =>
    obind (ref02_Has a i) fun (r10 : Bool) =>
    bif ((r6 == r10) == true) then
      obind (wide_Low i) fun (r13 : Wide) =>
      obind (ref02_Low n i) fun (r16 : Wide) =>
      bif ((beqT TWide r13 r16) == true) then
        obind (law02_awake n) fun (r27 : Bool) =>
        some r27
      else
      some false
    else
    some false
  else
  some false

def law02_WideOne.τs : List Ty := [TWide, (.int .i64)]

def wide_Or (a : Wide) (b : Wide) : Wide :=
  (bitsI .or .u64 a.1 b.1, bitsI .or .u64 a.2 b.2)

def wide_Xor (a : Wide) (b : Wide) : Wide :=
  (bitsI .xor .u64 a.1 b.1, bitsI .xor .u64 a.2 b.2)

def ref02_Xor (a : Wide) (b : Wide) : Wide :=
  (bitsI .xor .u64 a.1 b.1, bitsI .xor .u64 a.2 b.2)

def wide_Less (a : Wide) (b : Wide) : Wide :=
  (bitsI .andNot .u64 a.1 b.1, bitsI .andNot .u64 a.2 b.2)

def ref02_Less (a : Wide) (b : Wide) : Wide :=
  (bitsI .andNot .u64 a.1 b.1, bitsI .andNot .u64 a.2 b.2)

def ref02_Many.s0 (n : Nat) (k0 : (Int → Int → Option Int)) (n3 : Int) (i : Int) (a_1 : Wide) : Option Int :=
  bif decide (i < 128) then
    obind (ref02_Has a_1 i) fun (r39 : Bool) =>
    bif r39 then
      k0 (IntKind.wrap .i64 (n3 + 1)) (IntKind.wrap .i64 (i + 1))
    else
    k0 n3 (IntKind.wrap .i64 (i + 1))
  else
  some n3

def ref02_Many.l0 (n : Nat) (a_1 : Wide) : Nat → Int → Int → Option Int
  | 0, _, _ => none
  | m + 1, n3, i => ref02_Many.s0 n (fun n3' i' => ref02_Many.l0 n a_1 m n3' i') n3 i a_1

def ref02_Many.s (n : Nat) (k0 : (Int → Int → Wide → Option Int)) (a : Wide) : Option Int :=
  k0 0 0 a

def ref02_Many (n : Nat) (a : Wide) : Option Int := ref02_Many.s n (fun n3 i a_1 => ref02_Many.l0 n a_1 n n3 i) a

def law02_WideBits (n : Nat) (a : Wide) (b : Wide) : Option Bool :=
  obind (some (wide_And a b)) fun (r28 : Wide) =>
  obind (some (ref02_And a b)) fun (r29 : Wide) =>
  bif ((beqT TWide r28 r29) == true) then
    obind (some (wide_Or a b)) fun (r30 : Wide) =>
    obind (some (ref02_Or a b)) fun (r31 : Wide) =>
    bif ((beqT TWide r30 r31) == true) then
      obind (some (wide_Xor a b)) fun (r32 : Wide) =>
      obind (some (ref02_Xor a b)) fun (r33 : Wide) =>
      bif ((beqT TWide r32 r33) == true) then
        obind (some (wide_Less a b)) fun (r34 : Wide) =>
        obind (some (ref02_Less a b)) fun (r35 : Wide) =>
        bif ((beqT TWide r34 r35) == true) then
          obind (some (wide_Zero a)) fun (r36 : Bool) =>
          obind (some (ref02_Zero a)) fun (r37 : Bool) =>
          bif ((r36 == r37) == true) then
            obind (some (wide_Many a)) fun (r38 : Int) =>
            obind (ref02_Many n a) fun (r40 : Int) =>
            bif ((r38 == r40) == true) then
              obind (law02_awake n) fun (r41 : Bool) =>
              some r41
            else
            some false
          else
          some false
        else
        some false
      else
      some false
    else
    some false
  else
  some false

def law02_WideBits.τs : List Ty := [TWide, TWide]

def law02_WideCounts (n : Nat) (a : Wide) (b : Wide) : Option Bool :=
  obind (some (wide_Many a)) fun (r42 : Int) =>
  obind (some (wide_Many b)) fun (r43 : Int) =>
  obind (some (wide_Or a b)) fun (r44 : Wide) =>
  obind (some (wide_Many r44)) fun (r45 : Int) =>
  obind (some (wide_And a b)) fun (r46 : Wide) =>
  obind (some (wide_Many r46)) fun (r47 : Int) =>
  bif (((IntKind.wrap .i64 (r42 + r43)) == (IntKind.wrap .i64 (r45 + r47))) == true) then
    obind (some (wide_Less a b)) fun (r48 : Wide) =>
    obind (some (wide_And a b)) fun (r49 : Wide) =>
    obind (some (wide_Or r48 r49)) fun (r50 : Wide) =>
    bif ((beqT TWide r50 a) == true) then
      obind (some (wide_Xor a b)) fun (r51 : Wide) =>
      obind (some (wide_Xor r51 b)) fun (r52 : Wide) =>
      bif ((beqT TWide r52 a) == true) then
        obind (law02_awake n) fun (r53 : Bool) =>
        some r53
      else
      some false
    else
    some false
  else
  some false

def law02_WideCounts.τs : List Ty := [TWide, TWide]

def wide_Get.s0 (n : Nat) (k0 : (Int → Wide → Option (Wide × Bool))) (v21 : (List Int)) (v22 : Int) (v23 : Int) (v4 : Wide) (a : Wide) : Option (Wide × Bool) :=
  bif decide (v23 < v22) then
    bif inRange v23 (List.length v21) then
    k0 (IntKind.wrap .i64 (v23 + 1)) (bitsI .or .u64 (shlI .u64 a.1 8) (shrI .u64 a.2 56), bitsI .or .u64 (shlI .u64 a.2 8) (IntKind.wrap .u64 (List.getD v21 (Int.toNat v23) 0)))
    else none
  else
  some (a, true)

def wide_Get.l0 (n : Nat) (v21 : (List Int)) (v22 : Int) (v4 : Wide) : Nat → Int → Wide → Option (Wide × Bool)
  | 0, _, _ => none
  | m + 1, v23, a => wide_Get.s0 n (fun v23' a' => wide_Get.l0 n v21 v22 v4 m v23' a') v21 v22 v23 v4 a

def wide_Get.s (n : Nat) (k0 : ((List Int) → Int → Int → Wide → Wide → Option (Wide × Bool))) (b : (List Int)) (size : Int) : Option (Wide × Bool) :=
  bif ((decide (size < 0)) == false) then
    bif decide (size > (minI ((List.length b : Nat) : Int) 16)) then
      some ((0, 0), false)
    else
    bif ((decide (0 ≤ size)) && (decide (size ≤ ((List.length b : Nat) : Int)))) then
    let y0 : (List Int) := sub b 0 (Int.toNat size)
    k0 y0 ((List.length y0 : Nat) : Int) 0 (0, 0) (0, 0)
    else none
  else
  some ((0, 0), false)

def wide_Get (n : Nat) (b : (List Int)) (size : Int) : Option (Wide × Bool) := wide_Get.s n (fun v21 v22 v23 v4 a => wide_Get.l0 n v21 v22 v4 n v23 a) b size

def law02_WideBack (n : Nat) (a : Wide) (k1 : Int) : Option Bool :=
  let y0 : Int := IntKind.wrap .i64 (Int.tmod k1 17)
  obind (wide_Low (IntKind.wrap .i64 (8 * y0))) fun (r54 : Wide) =>
  obind (some (wide_And a r54)) fun (r55 : Wide) =>
  obind (wide_Put n ([] : (List Int)) r55 y0) fun (r56 : (List Int)) =>
  obind (wide_Get n r56 y0) fun (r57 : (Wide × Bool)) =>
  bif (r57.2 == true) then
    bif ((beqT TWide r57.1 r55) == true) then
      obind (law02_awake n) fun (r58 : Bool) =>
      some r58
    else
    some false
  else
  some false

def law02_WideBack.τs : List Ty := [TWide, (.int .u8)]

def slices_Clone_byte (s : (List Int)) : Option (List Int) := bif decide ((List.length ([] : (List Int)) + List.length s) * 1 ≤ 140737488355328) then some s else none

def ref02_Get.s0 (n : Nat) (k0 : (Int → Wide → Option (Wide × Bool))) (b_1 : (List Int)) (size_1 : Int) (i : Int) (v4 : Wide) (out : Wide) : Option (Wide × Bool) :=
  bif decide (i < size_1) then
    bif inRange i (List.length b_1) then
    k0 (IntKind.wrap .i64 (i + 1)) (bitsI .or .u64 (shlI .u64 out.1 8) (shrI .u64 out.2 56), bitsI .or .u64 (shlI .u64 out.2 8) (IntKind.wrap .u64 (List.getD b_1 (Int.toNat i) 0)))
    else none
  else
  some (out, true)

def ref02_Get.l0 (n : Nat) (b_1 : (List Int)) (size_1 : Int) (v4 : Wide) : Nat → Int → Wide → Option (Wide × Bool)
  | 0, _, _ => none
  | m + 1, i, out => ref02_Get.s0 n (fun i' out' => ref02_Get.l0 n b_1 size_1 v4 m i' out') b_1 size_1 i v4 out

def ref02_Get.s (n : Nat) (k0 : ((List Int) → Int → Int → Wide → Wide → Option (Wide × Bool))) (b : (List Int)) (size : Int) : Option (Wide × Bool) :=
  bif ((decide (size < 0)) == false) then
    bif ((decide (size > 16)) == false) then
      bif decide (size > ((List.length b : Nat) : Int)) then
        some ((0, 0), false)
      else
      k0 b size 0 (0, 0) (0, 0)
    else
    some ((0, 0), false)
  else
  some ((0, 0), false)

def ref02_Get (n : Nat) (b : (List Int)) (size : Int) : Option (Wide × Bool) := ref02_Get.s n (fun b_1 size_1 i v4 out => ref02_Get.l0 n b_1 size_1 v4 n i out) b size

def ref02_part (a : Wide) (i : Int) : Option Int :=
  bif decide (i < 8) then
    let y0 : Int := IntKind.wrap .u64 (IntKind.wrap .i64 (8 * i))
    bif !(decide (y0 < 0)) then
    some (IntKind.wrap .u8 (shrI .u64 a.2 y0))
    else none
  else
  let y1 : Int := IntKind.wrap .i64 (8 * (IntKind.wrap .i64 (i - 8)))
  let y2 : Int := IntKind.wrap .u64 y1
  bif !(decide (y2 < 0)) then
  some (IntKind.wrap .u8 (shrI .u64 a.1 y2))
  else none

def ref02_Put.s0 (n : Nat) (k0 : ((List Int) → Int → Option (List Int))) (out : (List Int)) (i : Int) (a_1 : Wide) : Option (List Int) :=
  bif decide (i ≥ 0) then
    obind (ref02_part a_1 i) fun (r64 : Int) =>
    bif decide ((List.length out + List.length ([r64] : (List Int))) * 1 ≤ 140737488355328) then
    k0 (out ++ ([r64] : (List Int))) (IntKind.wrap .i64 (i - 1))
    else none
  else
  some out

def ref02_Put.l0 (n : Nat) (a_1 : Wide) : Nat → (List Int) → Int → Option (List Int)
  | 0, _, _ => none
  | m + 1, out, i => ref02_Put.s0 n (fun out' i' => ref02_Put.l0 n a_1 m out' i') out i a_1

def ref02_Put.s (n : Nat) (k0 : ((List Int) → Int → Wide → Option (List Int))) (b : (List Int)) (a : Wide) (size : Int) : Option (List Int) :=
  bif decide ((List.length ([] : (List Int)) + List.length b) * 1 ≤ 140737488355328) then
  k0 (([] : (List Int)) ++ b) (IntKind.wrap .i64 ((minI (maxI size 0) 16) - 1)) a
  else none

def ref02_Put (n : Nat) (b : (List Int)) (a : Wide) (size : Int) : Option (List Int) := ref02_Put.s n (fun out i a_1 => ref02_Put.l0 n a_1 n out i) b a size

def law02_WidePuts (n : Nat) (b : (List Int)) (a : Wide) (size : Int) : Option Bool :=
  bif decide (((List.length b : Nat) : Int) > 4000) then
    obind (law02_awake n) fun (r59 : Bool) =>
    some r59
  else
  obind (slices_Clone_byte b) fun (r60 : (List Int)) =>
  bif decide ((List.length r60 + List.length ([9, 8, 7, 6] : (List Int))) * 1 ≤ 140737488355328) then
  let y0 : (List Int) := (r60 ++ ([9, 8, 7, 6] : (List Int)))
  bif ((decide (0 ≤ ((List.length b : Nat) : Int))) && (decide (((List.length b : Nat) : Int) ≤ ((List.length y0 : Nat) : Int)))) then
  obind (wide_Put n (sub y0 0 (Int.toNat ((List.length b : Nat) : Int))) a size) fun (r61 : (List Int)) =>
  obind (wide_Get n b size) fun (r62 : (Wide × Bool)) =>
  obind (ref02_Get n b size) fun (r63 : (Wide × Bool)) =>
  obind (ref02_Put n b a size) fun (r65 : (List Int)) =>
  obind (slices_Equal_byte n r61 r65) fun (r66 : Bool) =>
  bif (r66 == true) then
    obind (slices_Clone_byte b) fun (r67 : (List Int)) =>
    bif decide ((List.length r67 + List.length ([9, 8, 7, 6] : (List Int))) * 1 ≤ 140737488355328) then
    obind (slices_Equal_byte n y0 (r67 ++ ([9, 8, 7, 6] : (List Int)))) fun (r68 : Bool) =>
    bif (r68 == true) then
      bif ((beqT TWide r62.1 r63.1) == true) then
        bif ((r62.2 == r63.2) == true) then
          obind (law02_awake n) fun (r69 : Bool) =>
          some r69
        else
        some false
      else
      some false
    else
    some false
    else none
  else
  some false
  else none
  else none

def law02_WidePuts.τs : List Ty := [(.slc (.int .u8)), TWide, (.int .i64)]

def fault_Of (kind : Int) (code : Int) : Fault :=
  (true, kind, code)

def num_sized (size : Int) : Bool :=
  bif ((size == 1) == false) then
    bif ((size == 2) == false) then
      (size == 4)
    else
    true
  else
  true
def num_sized.o (size : Int) : Option Bool :=
  bif ((size == 1) == false) then
    bif ((size == 2) == false) then
      some (size == 4)
    else
    some true
  else
  some true
theorem num_sized.o_eq (size : Int) : num_sized.o size = some (num_sized size) := by simp only [num_sized.o, num_sized, cond_some, obind_some]

def num_Right (n0 : Int) (size : Int) : Option Bool :=
  obind (some (num_sized size)) fun (r71 : Bool) =>
  bif (r71 == true) then
    bif ((decide (n0 ≥ 0)) == true) then
      bif !(decide ((IntKind.wrap .i64 (8 * size)) < 0)) then
      some ((shrI .i64 n0 (IntKind.wrap .i64 (8 * size))) == 0)
      else none
    else
    some false
  else
  some false

def num_Put.s0 (n : Nat) (k0 : (Int → (List Int) → Option (List Int))) (b_1 : (List Int)) (n1_1 : Int) (size_1 : Int) (v15 : Int) (x : (List Int)) : Option (List Int) :=
  bif decide (v15 < 4) then
    let y0 : Int := IntKind.wrap .i64 (24 - (IntKind.wrap .i64 (8 * v15)))
    bif !(decide (y0 < 0)) then
    bif inRange v15 4 then
    k0 (IntKind.wrap .i64 (v15 + 1)) (List.set x (Int.toNat v15) (IntKind.wrap .u8 (shrI .i64 n1_1 y0)))
    else none
    else none
  else
  bif ((decide (0 ≤ ((List.length b_1 : Nat) : Int))) && ((decide (((List.length b_1 : Nat) : Int) = ((List.length b_1 : Nat) : Int))) && (decide (((List.length b_1 : Nat) : Int) ≤ ((List.length b_1 : Nat) : Int))))) then
  bif ((decide (0 ≤ (IntKind.wrap .i64 (4 - size_1)))) && (decide ((IntKind.wrap .i64 (4 - size_1)) ≤ ((List.length x : Nat) : Int)))) then
  let y1 : Nat := Int.toNat ((List.length b_1 : Nat) : Int)
  let y2 : (List Int) := sub b_1 0 y1
  let y3 : Nat := Int.toNat (IntKind.wrap .i64 (4 - size_1))
  let y4 : (List Int) := List.drop y3 x
  bif decide ((List.length y2 + List.length y4) * 1 ≤ 140737488355328) then
  some (y2 ++ y4)
  else none
  else none
  else none

def num_Put.l0 (n : Nat) (b_1 : (List Int)) (n1_1 : Int) (size_1 : Int) : Nat → Int → (List Int) → Option (List Int)
  | 0, _, _ => none
  | m + 1, v15, x => num_Put.s0 n (fun v15' x' => num_Put.l0 n b_1 n1_1 size_1 m v15' x') b_1 n1_1 size_1 v15 x

def num_Put.s (n : Nat) (k0 : ((List Int) → Int → Int → Int → (List Int) → Option (List Int))) (b : (List Int)) (n1 : Int) (size : Int) : Option (List Int) :=
  obind (num_Right n1 size) fun (r74 : Bool) =>
  bif !r74 then
    bif decide ((List.length ([] : (List Int)) + List.length b) * 1 ≤ 140737488355328) then
    some (([] : (List Int)) ++ b)
    else none
  else
  k0 b n1 size 0 (List.replicate 4 0)

def num_Put (n : Nat) (b : (List Int)) (n1 : Int) (size : Int) : Option (List Int) := num_Put.s n (fun b_1 n1_1 size_1 v15 x => num_Put.l0 n b_1 n1_1 size_1 n v15 x) b n1 size

def num_Get.s0 (n : Nat) (k0 : (Int → Int → Option (Int × Int))) (n8 : Int) (v29 : (List Int)) (v30 : Int) (v31 : Int) : Option (Int × Int) :=
  bif decide (v31 < v30) then
    bif inRange v31 (List.length v29) then
    k0 (bitsI .or .i64 (shlI .i64 n8 8) (IntKind.wrap .i64 (List.getD v29 (Int.toNat v31) 0))) (IntKind.wrap .i64 (v31 + 1))
    else none
  else
  some (n8, 0)

def num_Get.l0 (n : Nat) (v29 : (List Int)) (v30 : Int) : Nat → Int → Int → Option (Int × Int)
  | 0, _, _ => none
  | m + 1, n8, v31 => num_Get.s0 n (fun n8' v31' => num_Get.l0 n v29 v30 m n8' v31') n8 v29 v30 v31

def num_Get.s (n : Nat) (k0 : (Int → (List Int) → Int → Int → Option (Int × Int))) (b : (List Int)) (at1 : Int) (size : Int) : Option (Int × Int) :=
  obind (some (num_sized size)) fun (r77 : Bool) =>
  bif ((!r77) == false) then
    bif decide (at1 < 0) then
      some (0, 1)
    else
    bif decide ((IntKind.wrap .i64 (((List.length b : Nat) : Int) - at1)) < size) then
      some (0, 3)
    else
    bif ((decide (0 ≤ at1)) && ((decide (at1 ≤ (IntKind.wrap .i64 (at1 + size)))) && (decide ((IntKind.wrap .i64 (at1 + size)) ≤ ((List.length b : Nat) : Int))))) then
    let y0 : (List Int) := sub b (Int.toNat at1) (Int.toNat (IntKind.wrap .i64 (at1 + size)))
    k0 0 y0 ((List.length y0 : Nat) : Int) 0
    else none
  else
  some (0, 1)

def num_Get (n : Nat) (b : (List Int)) (at1 : Int) (size : Int) : Option (Int × Int) := num_Get.s n (fun n8 v29 v30 v31 => num_Get.l0 n v29 v30 n n8 v31) b at1 size

def fault_xid (n : Nat) (message : (List Int)) : Option Int :=
  bif decide (((List.length message : Nat) : Int) < 8) then
    some 0
  else
  obind (num_Get n message 4 4) fun (r78 : (Int × Int)) =>
  some r78.1

def frame_Head (n : Nat) (kind : Int) (xid : Int) (body : (List Int)) : Option ((List Int) × Int) :=
  obind (num_Right kind 1) fun (r80 : Bool) =>
  bif ((!r80) == false) then
    obind (num_Right xid 4) fun (r81 : Bool) =>
    bif ((!r81) == false) then
      bif decide (((List.length body : Nat) : Int) > 65527) then
        some (([] : (List Int)), 1)
      else
      obind (num_Put n ([] : (List Int)) 4 1) fun (r82 : (List Int)) =>
      obind (num_Put n r82 kind 1) fun (r83 : (List Int)) =>
      obind (num_Put n r83 (IntKind.wrap .i64 (8 + ((List.length body : Nat) : Int))) 2) fun (r84 : (List Int)) =>
      obind (num_Put n r84 xid 4) fun (r85 : (List Int)) =>
      bif decide ((List.length r85 + List.length body) * 1 ≤ 140737488355328) then
      some ((r85 ++ body), 0)
      else none
    else
    some (([] : (List Int)), 1)
  else
  some (([] : (List Int)), 1)

def fault_Reply (n : Nat) (f : Fault) (message : (List Int)) : Option (List Int) :=
  bif ((!f.1) == false) then
    obind (num_Right f.2.1 2) fun (r72 : Bool) =>
    bif ((!r72) == false) then
      obind (num_Right f.2.2 2) fun (r73 : Bool) =>
      bif !r73 then
        some ([] : (List Int))
      else
      obind (num_Put n ([] : (List Int)) f.2.1 2) fun (r75 : (List Int)) =>
      obind (num_Put n r75 f.2.2 2) fun (r76 : (List Int)) =>
      let y0 : Int := minI 64 ((List.length message : Nat) : Int)
      bif ((decide (0 ≤ y0)) && (decide (y0 ≤ ((List.length message : Nat) : Int)))) then
      let y1 : Nat := Int.toNat y0
      let y2 : (List Int) := sub message 0 y1
      bif decide ((List.length r76 + List.length y2) * 1 ≤ 140737488355328) then
      obind (fault_xid n message) fun (r79 : Int) =>
      obind (frame_Head n 1 r79 (r76 ++ y2)) fun (r86 : ((List Int) × Int)) =>
      some r86.1
      else none
      else none
    else
    some ([] : (List Int))
  else
  some ([] : (List Int))

def fault_Parse (n : Nat) (body : (List Int)) : Option (Fault × (List Int) × Bool) :=
  obind (num_Get n body 0 2) fun (r88 : (Int × Int)) =>
  obind (num_Get n body 2 2) fun (r89 : (Int × Int)) =>
  bif ((r88.2 != 0) == false) then
    bif (r89.2 != 0) then
      some ((false, 0, 0), ([] : (List Int)), false)
    else
    obind (some (fault_Of r88.1 r89.1)) fun (r90 : Fault) =>
    bif decide (4 ≤ ((List.length body : Nat) : Int)) then
    obind (slices_Clone_byte (List.drop 4 body)) fun (r91 : (List Int)) =>
    some (r90, r91, true)
    else none
  else
  some ((false, 0, 0), ([] : (List Int)), false)

def bytes_Equal (a : (List Int)) (b : (List Int)) : Bool :=
  ((bytesOf a) == (bytesOf b))

def fault_Name (f : Fault) : Option ByteArray :=
  bif ((!f.1) == false) then
    bif ((decide (f.2.1 < 1)) == false) then
      bif decide (f.2.1 ≥ 7) then
        some (ByteArray.mk #[])
      else
      bif inRange f.2.1 7 then
      some (List.getD ([ByteArray.empty, (ByteArray.mk #[98, 97, 100, 32, 114, 101, 113, 117, 101, 115, 116]), (ByteArray.mk #[98, 97, 100, 32, 97, 99, 116, 105, 111, 110]), (ByteArray.mk #[98, 97, 100, 32, 105, 110, 115, 116, 114, 117, 99, 116, 105, 111, 110]), (ByteArray.mk #[98, 97, 100, 32, 109, 97, 116, 99, 104]), (ByteArray.mk #[102, 108, 111, 119, 32, 109, 111, 100, 32, 102, 97, 105, 108, 101, 100]), (ByteArray.mk #[103, 114, 111, 117, 112, 32, 109, 111, 100, 32, 102, 97, 105, 108, 101, 100])] : (List ByteArray)) (Int.toNat f.2.1) ByteArray.empty)
      else none
    else
    some (ByteArray.mk #[])
  else
  some (ByteArray.mk #[])

def law19_awake (n : Nat) : Option Bool :=
  obind (some (fault_Of 1 6)) fun (r70 : Fault) =>
  obind (fault_Reply n r70 ([4, 2, 0, 8, 0, 0, 0, 7] : (List Int))) fun (r87 : (List Int)) =>
  obind (fault_Parse n ([0, 1, 0, 6, 9] : (List Int))) fun (r92 : (Fault × (List Int) × Bool)) =>
  bif ((((List.length r87 : Nat) : Int) == 20) == true) then
    bif inRange 7 (List.length r87) then
    bif (((List.getD r87 7 0) == 7) == true) then
      bif (r92.2.2 == true) then
        bif ((beqT TFault r92.1 (true, 1, 6)) == true) then
          obind (some (bytes_Equal r92.2.1 ([9] : (List Int)))) fun (r93 : Bool) =>
          bif (r93 == true) then
            obind (fault_Name r92.1) fun (r94 : ByteArray) =>
            some (r94 == (ByteArray.mk #[98, 97, 100, 32, 114, 101, 113, 117, 101, 115, 116]))
          else
          some false
        else
        some false
      else
      some false
    else
    some false
    else none
  else
  some false

def law19_awake.τs : List Ty := []

def ref01_Right (n0 : Int) (size : Int) : Bool :=
  bif (size == 1) then
    bif ((decide (n0 ≥ 0)) == true) then
      decide (n0 ≤ 255)
    else
    false
  else
  bif (size == 2) then
    bif ((decide (n0 ≥ 0)) == true) then
      decide (n0 ≤ 65535)
    else
    false
  else
  bif (size == 4) then
    bif ((decide (n0 ≥ 0)) == true) then
      decide (n0 ≤ 4294967295)
    else
    false
  else
  false
def ref01_Right.o (n0 : Int) (size : Int) : Option Bool :=
  bif (size == 1) then
    bif ((decide (n0 ≥ 0)) == true) then
      some (decide (n0 ≤ 255))
    else
    some false
  else
  bif (size == 2) then
    bif ((decide (n0 ≥ 0)) == true) then
      some (decide (n0 ≤ 65535))
    else
    some false
  else
  bif (size == 4) then
    bif ((decide (n0 ≥ 0)) == true) then
      some (decide (n0 ≤ 4294967295))
    else
    some false
  else
  some false
theorem ref01_Right.o_eq (n0 : Int) (size : Int) : ref01_Right.o n0 size = some (ref01_Right n0 size) := by simp only [ref01_Right.o, ref01_Right, cond_some, obind_some]

def ref01_Get.s0 (n : Nat) (k0 : (Int → Int → Option (Int × Int))) (b_1 : (List Int)) (at1_1 : Int) (size_1 : Int) (n8 : Int) (i : Int) : Option (Int × Int) :=
  bif decide (i < size_1) then
    bif inRange (IntKind.wrap .i64 (at1_1 + i)) (List.length b_1) then
    k0 (IntKind.wrap .i64 ((IntKind.wrap .i64 (n8 * 256)) + (IntKind.wrap .i64 (List.getD b_1 (Int.toNat (IntKind.wrap .i64 (at1_1 + i))) 0)))) (IntKind.wrap .i64 (i + 1))
    else none
  else
  some (n8, 0)

def ref01_Get.l0 (n : Nat) (b_1 : (List Int)) (at1_1 : Int) (size_1 : Int) : Nat → Int → Int → Option (Int × Int)
  | 0, _, _ => none
  | m + 1, n8, i => ref01_Get.s0 n (fun n8' i' => ref01_Get.l0 n b_1 at1_1 size_1 m n8' i') b_1 at1_1 size_1 n8 i

def ref01_Get.s (n : Nat) (k0 : ((List Int) → Int → Int → Int → Int → Option (Int × Int))) (b : (List Int)) (at1 : Int) (size : Int) : Option (Int × Int) :=
  bif ((size != 1) == true) then
    bif ((size != 2) == true) then
      bif ((size != 4) == false) then
        bif decide (at1 < 0) then
          some (0, 1)
        else
        bif ((decide (at1 > ((List.length b : Nat) : Int))) == false) then
          bif decide (size > (IntKind.wrap .i64 (((List.length b : Nat) : Int) - at1))) then
            some (0, 3)
          else
          k0 b at1 size 0 0
        else
        some (0, 3)
      else
      some (0, 1)
    else
    bif decide (at1 < 0) then
      some (0, 1)
    else
    bif ((decide (at1 > ((List.length b : Nat) : Int))) == false) then
      bif decide (size > (IntKind.wrap .i64 (((List.length b : Nat) : Int) - at1))) then
        some (0, 3)
      else
      k0 b at1 size 0 0
    else
    some (0, 3)
  else
  bif decide (at1 < 0) then
    some (0, 1)
  else
  bif ((decide (at1 > ((List.length b : Nat) : Int))) == false) then
    bif decide (size > (IntKind.wrap .i64 (((List.length b : Nat) : Int) - at1))) then
      some (0, 3)
    else
    k0 b at1 size 0 0
  else
  some (0, 3)

def ref01_Get (n : Nat) (b : (List Int)) (at1 : Int) (size : Int) : Option (Int × Int) := ref01_Get.s n (fun b_1 at1_1 size_1 n8 i => ref01_Get.l0 n b_1 at1_1 size_1 n n8 i) b at1 size

def ref01_Put.s0 (n : Nat) (k0 : ((List Int) → Int → Option (List Int))) (n1_1 : Int) (out : (List Int)) (i : Int) : Option (List Int) :=
  bif decide (i ≥ 0) then
    bif !(decide ((IntKind.wrap .i64 (8 * i)) < 0)) then
    let y0 : Int := shrI .i64 n1_1 (IntKind.wrap .i64 (8 * i))
    let y1 : Int := IntKind.wrap .u8 y0
    bif decide ((List.length out + List.length ([y1] : (List Int))) * 1 ≤ 140737488355328) then
    k0 (out ++ ([y1] : (List Int))) (IntKind.wrap .i64 (i - 1))
    else none
    else none
  else
  some out

def ref01_Put.l0 (n : Nat) (n1_1 : Int) : Nat → (List Int) → Int → Option (List Int)
  | 0, _, _ => none
  | m + 1, out, i => ref01_Put.s0 n (fun out' i' => ref01_Put.l0 n n1_1 m out' i') n1_1 out i

def ref01_Put.s (n : Nat) (k0 : (Int → (List Int) → Int → Option (List Int))) (b : (List Int)) (n1 : Int) (size : Int) : Option (List Int) :=
  bif decide ((List.length ([] : (List Int)) + List.length b) * 1 ≤ 140737488355328) then
  obind (some (ref01_Right n1 size)) fun (r100 : Bool) =>
  let y0 : (List Int) := (([] : (List Int)) ++ b)
  bif !r100 then
    some y0
  else
  k0 n1 y0 (IntKind.wrap .i64 (size - 1))
  else none

def ref01_Put (n : Nat) (b : (List Int)) (n1 : Int) (size : Int) : Option (List Int) := ref01_Put.s n (fun n1_1 out i => ref01_Put.l0 n n1_1 n out i) b n1 size

def ref16_Head (n : Nat) (kind : Int) (xid : Int) (body : (List Int)) : Option ((List Int) × Int) :=
  obind (some (ref01_Right kind 1)) fun (r103 : Bool) =>
  bif ((!r103) == false) then
    obind (some (ref01_Right xid 4)) fun (r104 : Bool) =>
    bif ((!r104) == false) then
      bif decide (((List.length body : Nat) : Int) > 65527) then
        some (([] : (List Int)), 1)
      else
      obind (ref01_Put n ([] : (List Int)) 4 1) fun (r105 : (List Int)) =>
      obind (ref01_Put n r105 kind 1) fun (r106 : (List Int)) =>
      obind (ref01_Put n r106 (IntKind.wrap .i64 (8 + ((List.length body : Nat) : Int))) 2) fun (r107 : (List Int)) =>
      obind (ref01_Put n r107 xid 4) fun (r108 : (List Int)) =>
      bif decide ((List.length r108 + List.length body) * 1 ≤ 140737488355328) then
      some ((r108 ++ body), 0)
      else none
    else
    some (([] : (List Int)), 1)
  else
  some (([] : (List Int)), 1)

def ref19_Reply (n : Nat) (f : Fault) (message : (List Int)) : Option (List Int) :=
  bif ((!f.1) == false) then
    obind (some (ref01_Right f.2.1 2)) fun (r97 : Bool) =>
    bif ((!r97) == false) then
      obind (some (ref01_Right f.2.2 2)) fun (r98 : Bool) =>
      bif !r98 then
        some ([] : (List Int))
      else
      bif decide (((List.length message : Nat) : Int) ≥ 8) then
        obind (ref01_Get n message 4 4) fun (r99 : (Int × Int)) =>
        obind (ref01_Put n ([] : (List Int)) f.2.1 2) fun (r101 : (List Int)) =>
        obind (ref01_Put n r101 f.2.2 2) fun (r102 : (List Int)) =>
        let y0 : Int := minI 64 ((List.length message : Nat) : Int)
        bif ((decide (0 ≤ y0)) && (decide (y0 ≤ ((List.length message : Nat) : Int)))) then
        let y1 : Nat := Int.toNat y0
        let y2 : (List Int) := sub message 0 y1
        bif decide ((List.length r102 + List.length y2) * 1 ≤ 140737488355328) then
        obind (ref16_Head n 1 r99.1 (r102 ++ y2)) fun (r109 : ((List Int) × Int)) =>
        some r109.1
        else none
        else none
      else
      obind (ref01_Put n ([] : (List Int)) f.2.1 2) fun (r110 : (List Int)) =>
      obind (ref01_Put n r110 f.2.2 2) fun (r111 : (List Int)) =>
      let y3 : Int := minI 64 ((List.length message : Nat) : Int)
      bif ((decide (0 ≤ y3)) && (decide (y3 ≤ ((List.length message : Nat) : Int)))) then
      let y4 : Nat := Int.toNat y3
      let y5 : (List Int) := sub message 0 y4
      bif decide ((List.length r111 + List.length y5) * 1 ≤ 140737488355328) then
      obind (ref16_Head n 1 0 (r111 ++ y5)) fun (r112 : ((List Int) × Int)) =>
      some r112.1
      else none
      else none
    else
    some ([] : (List Int))
  else
  some ([] : (List Int))

def ref19_Of (kind : Int) (code : Int) : Fault :=
  (true, kind, code)

def ref19_Name (f : Fault) : ByteArray :=
  bif !f.1 then
    (ByteArray.mk #[])
  else
  bif (f.2.1 == 1) then
    (ByteArray.mk #[98, 97, 100, 32, 114, 101, 113, 117, 101, 115, 116])
  else
  bif (f.2.1 == 2) then
    (ByteArray.mk #[98, 97, 100, 32, 97, 99, 116, 105, 111, 110])
  else
  bif (f.2.1 == 3) then
    (ByteArray.mk #[98, 97, 100, 32, 105, 110, 115, 116, 114, 117, 99, 116, 105, 111, 110])
  else
  bif (f.2.1 == 4) then
    (ByteArray.mk #[98, 97, 100, 32, 109, 97, 116, 99, 104])
  else
  bif (f.2.1 == 5) then
    (ByteArray.mk #[102, 108, 111, 119, 32, 109, 111, 100, 32, 102, 97, 105, 108, 101, 100])
  else
  bif (f.2.1 == 6) then
    (ByteArray.mk #[103, 114, 111, 117, 112, 32, 109, 111, 100, 32, 102, 97, 105, 108, 101, 100])
  else
  (ByteArray.mk #[])
def ref19_Name.o (f : Fault) : Option ByteArray :=
  bif !f.1 then
    some (ByteArray.mk #[])
  else
  bif (f.2.1 == 1) then
    some (ByteArray.mk #[98, 97, 100, 32, 114, 101, 113, 117, 101, 115, 116])
  else
  bif (f.2.1 == 2) then
    some (ByteArray.mk #[98, 97, 100, 32, 97, 99, 116, 105, 111, 110])
  else
  bif (f.2.1 == 3) then
    some (ByteArray.mk #[98, 97, 100, 32, 105, 110, 115, 116, 114, 117, 99, 116, 105, 111, 110])
  else
  bif (f.2.1 == 4) then
    some (ByteArray.mk #[98, 97, 100, 32, 109, 97, 116, 99, 104])
  else
  bif (f.2.1 == 5) then
    some (ByteArray.mk #[102, 108, 111, 119, 32, 109, 111, 100, 32, 102, 97, 105, 108, 101, 100])
  else
  bif (f.2.1 == 6) then
    some (ByteArray.mk #[103, 114, 111, 117, 112, 32, 109, 111, 100, 32, 102, 97, 105, 108, 101, 100])
  else
  some (ByteArray.mk #[])
theorem ref19_Name.o_eq (f : Fault) : ref19_Name.o f = some (ref19_Name f) := by simp only [ref19_Name.o, ref19_Name, cond_some, obind_some]

def law19_FaultReplies (n : Nat) (f : Fault) (message : (List Int)) : Option Bool :=
  bif decide (((List.length message : Nat) : Int) > 4000) then
    obind (law19_awake n) fun (r95 : Bool) =>
    some r95
  else
  obind (fault_Reply n f message) fun (r96 : (List Int)) =>
  obind (ref19_Reply n f message) fun (r113 : (List Int)) =>
  obind (some (bytes_Equal r96 r113)) fun (r114 : Bool) =>
  bif (r114 == true) then
    obind (some (fault_Of f.2.1 f.2.2)) fun (r115 : Fault) =>
    obind (some (ref19_Of f.2.1 f.2.2)) fun (r116 : Fault) =>
    bif ((beqT TFault r115 r116) == true) then
      obind (fault_Name f) fun (r117 : ByteArray) =>
      obind (some (ref19_Name f)) fun (r118 : ByteArray) =>
      bif ((r117 == r118) == true) then
        obind (law19_awake n) fun (r119 : Bool) =>
        some r119
      else
      some false
    else
    some false
  else
  some false

def law19_FaultReplies.τs : List Ty := [TFault, (.slc (.int .u8))]

def ref19_Parse (n : Nat) (body : (List Int)) : Option (Fault × (List Int) × Bool) :=
  bif decide (((List.length body : Nat) : Int) < 4) then
    some ((false, 0, 0), ([] : (List Int)), false)
  else
  obind (ref01_Get n body 0 2) fun (r122 : (Int × Int)) =>
  obind (ref01_Get n body 2 2) fun (r123 : (Int × Int)) =>
  obind (some (ref19_Of r122.1 r123.1)) fun (r124 : Fault) =>
  bif decide (4 ≤ ((List.length body : Nat) : Int)) then
  bif decide ((List.length ([] : (List Int)) + List.length (List.drop 4 body)) * 1 ≤ 140737488355328) then
  some (r124, (([] : (List Int)) ++ (List.drop 4 body)), true)
  else none
  else none

def law19_FaultParses (n : Nat) (b : (List Int)) : Option Bool :=
  bif decide (((List.length b : Nat) : Int) > 4000) then
    obind (law19_awake n) fun (r120 : Bool) =>
    some r120
  else
  obind (fault_Parse n b) fun (r121 : (Fault × (List Int) × Bool)) =>
  obind (ref19_Parse n b) fun (r125 : (Fault × (List Int) × Bool)) =>
  bif ((beqT TFault r121.1 r125.1) == true) then
    obind (some (bytes_Equal r121.2.1 r125.2.1)) fun (r126 : Bool) =>
    bif (r126 == true) then
      bif ((r121.2.2 == r125.2.2) == true) then
        obind (law19_awake n) fun (r127 : Bool) =>
        some r127
      else
      some false
    else
    some false
  else
  some false

def law19_FaultParses.τs : List Ty := [(.slc (.int .u8))]

def frame_says (n : Nat) (b : (List Int)) : Option (Int × Bool) :=
  bif decide (((List.length b : Nat) : Int) < 8) then
    some (0, false)
  else
  obind (num_Get n b 2 2) fun (r130 : (Int × Int)) =>
  bif decide (r130.1 < 8) then
    some (((List.length b : Nat) : Int), true)
  else
  some (r130.1, decide (r130.1 ≤ ((List.length b : Nat) : Int)))

def frame_pieces_1.s0 (n : Nat) (k0 : (Int → Bool → (List Int) → Option (List ((List Int) × (List Int))))) (n3 : Int) (ok : Bool) (v1 : (List Int)) : Option (List ((List Int) × (List Int))) :=
  bif ok then
    bif ((decide (0 ≤ n3)) && ((decide (n3 = n3)) && (decide (n3 ≤ ((List.length v1 : Nat) : Int))))) then
    bif ((decide (0 ≤ n3)) && (decide (n3 ≤ ((List.length v1 : Nat) : Int)))) then
    let y0 : (List Int) := List.drop (Int.toNat n3) v1
    obind (
      obind (frame_says n y0) fun (r132 : (Int × Bool)) =>
      k0 r132.1 r132.2 y0
    ) fun (z2 : (List ((List Int) × (List Int)))) => some ((sub v1 0 (Int.toNat n3), y0) :: z2)
    else none
    else none
  else
  some []

def frame_pieces_1.l0 (n : Nat) : Nat → Int → Bool → (List Int) → Option (List ((List Int) × (List Int)))
  | 0, _, _, _ => none
  | m + 1, n3, ok, v1 => frame_pieces_1.s0 n (fun n3' ok' v1' => frame_pieces_1.l0 n m n3' ok' v1') n3 ok v1

def frame_pieces_1.s (n : Nat) (k0 : (Int → Bool → (List Int) → Option (List ((List Int) × (List Int))))) (c0 : (List Int)) : Option (List ((List Int) × (List Int))) :=
  obind (frame_says n c0) fun (r131 : (Int × Bool)) =>
  k0 r131.1 r131.2 c0

def frame_pieces_1 (n : Nat) (c0 : (List Int)) : Option (List ((List Int) × (List Int))) := frame_pieces_1.s n (fun n3 ok v1 => frame_pieces_1.l0 n n n3 ok v1) c0

def frame_pieces (n : Nat) (b : (List Int)) : Option (List ((List Int) × (List Int))) :=
  obind (frame_pieces_1 n b) fun (r133 : (List ((List Int) × (List Int)))) =>
  some r133

def frame_Split_1.z0 (n : Nat) : Option (List (List Int)) :=
  some []

def frame_Split_1.s0 (n : Nat) (k0 : (Option (List (List Int)))) (x : ((List Int) × (List Int))) : Option (List (List Int)) :=
  obind (slices_Clone_byte x.1) fun (r135 : (List Int)) =>
  obind (
    k0
  ) fun (z1 : (List (List Int))) => some (r135 :: z1)

def frame_Split_1.l0 (n : Nat) : (List ((List Int) × (List Int))) → Option (List (List Int))
  | [] => frame_Split_1.z0 n
  | x :: xs => frame_Split_1.s0 n (frame_Split_1.l0 n xs) x

def frame_Split_1.s (n : Nat) (k0 : ((List ((List Int) × (List Int))) → Option (List (List Int)))) (c0 : (List Int)) : Option (List (List Int)) :=
  obind (frame_pieces n c0) fun (r134 : (List ((List Int) × (List Int)))) =>
  k0 r134

def frame_Split_1 (n : Nat) (c0 : (List Int)) : Option (List (List Int)) := frame_Split_1.s n (fun xs => frame_Split_1.l0 n xs) c0

def frame_Split (n : Nat) (b : (List Int)) : Option (List (List Int)) :=
  obind (frame_Split_1 n b) fun (r136 : (List (List Int))) =>
  some r136

def slices_AppendSeq_Lbyte_nil.z0 (n : Nat) (s : (List (List Int))) : Option (List (List Int)) :=
  some s

def slices_AppendSeq_Lbyte_nil.s0 (n : Nat) (k0 : ((List (List Int)) → Option (List (List Int)))) (s : (List (List Int))) (x : (List Int)) : Option (List (List Int)) :=
  bif decide ((List.length s + List.length ([x] : (List (List Int)))) * 24 ≤ 140737488355328) then
  k0 (s ++ ([x] : (List (List Int))))
  else none

def slices_AppendSeq_Lbyte_nil.l0 (n : Nat) : (List (List Int)) → (List (List Int)) → Option (List (List Int))
  | [], s => slices_AppendSeq_Lbyte_nil.z0 n s
  | x :: xs, s => slices_AppendSeq_Lbyte_nil.s0 n (fun s' => slices_AppendSeq_Lbyte_nil.l0 n xs s') s x

def slices_AppendSeq_Lbyte_nil.s (n : Nat) (k0 : ((List (List Int)) → (List (List Int)) → Option (List (List Int)))) (seq : (List (List Int))) : Option (List (List Int)) :=
  k0 seq ([] : (List (List Int)))

def slices_AppendSeq_Lbyte_nil (n : Nat) (seq : (List (List Int))) : Option (List (List Int)) := slices_AppendSeq_Lbyte_nil.s n (fun xs s => slices_AppendSeq_Lbyte_nil.l0 n xs s) seq

def slices_Collect_Lbyte (n : Nat) (seq : (List (List Int))) : Option (List (List Int)) :=
  obind (slices_AppendSeq_Lbyte_nil n seq) fun (r138 : (List (List Int))) =>
  some r138

def frame_List (n : Nat) (b : (List Int)) : Option (List (List Int)) :=
  obind (frame_Split n b) fun (r137 : (List (List Int))) =>
  obind (slices_Collect_Lbyte n r137) fun (r139 : (List (List Int))) =>
  some r139

def frame_Rest.z0 (n : Nat) (left : (List Int)) : Option (List Int) :=
  obind (slices_Clone_byte left) fun (r144 : (List Int)) =>
  some r144

def frame_Rest.s0 (n : Nat) (k0 : ((List Int) → Option (List Int))) (left : (List Int)) (x : ((List Int) × (List Int))) : Option (List Int) :=
  k0 x.2

def frame_Rest.l0 (n : Nat) : (List ((List Int) × (List Int))) → (List Int) → Option (List Int)
  | [], left => frame_Rest.z0 n left
  | x :: xs, left => frame_Rest.s0 n (fun left' => frame_Rest.l0 n xs left') left x

def frame_Rest.s (n : Nat) (k0 : ((List ((List Int) × (List Int))) → (List Int) → Option (List Int))) (b : (List Int)) : Option (List Int) :=
  obind (frame_pieces n b) fun (r143 : (List ((List Int) × (List Int)))) =>
  k0 r143 b

def frame_Rest (n : Nat) (b : (List Int)) : Option (List Int) := frame_Rest.s n (fun xs left => frame_Rest.l0 n xs left) b

def law16_awake (n : Nat) : Option Bool :=
  obind (frame_Head n 2 7 ([5] : (List Int))) fun (r128 : ((List Int) × Int)) =>
  obind (slices_Clone_byte r128.1) fun (r129 : (List Int)) =>
  bif decide ((List.length r129 + List.length ([4, 2] : (List Int))) * 1 ≤ 140737488355328) then
  obind (frame_List n (r129 ++ ([4, 2] : (List Int)))) fun (r140 : (List (List Int))) =>
  bif ((r128.2 == 0) == true) then
    bif ((((List.length r128.1 : Nat) : Int) == 9) == true) then
      bif ((((List.length r140 : Nat) : Int) == 1) == true) then
        bif inRange 0 (List.length r140) then
        obind (some (bytes_Equal (List.getD r140 0 ([] : (List Int))) r128.1)) fun (r141 : Bool) =>
        bif (r141 == true) then
          obind (slices_Clone_byte r128.1) fun (r142 : (List Int)) =>
          bif decide ((List.length r142 + List.length ([4, 2] : (List Int))) * 1 ≤ 140737488355328) then
          obind (frame_Rest n (r142 ++ ([4, 2] : (List Int)))) fun (r145 : (List Int)) =>
          obind (some (bytes_Equal r145 ([4, 2] : (List Int)))) fun (r146 : Bool) =>
          bif (r146 == true) then
            obind (frame_Split n r128.1) fun (r147 : (List (List Int))) =>
            some true
          else
          some false
          else none
        else
        some false
        else none
      else
      some false
    else
    some false
  else
  some false
  else none

def law16_awake.τs : List Ty := []

def ref16_says (b : (List Int)) : Option (Int × Bool) :=
  bif decide (((List.length b : Nat) : Int) < 8) then
    some (0, false)
  else
  bif inRange 2 (List.length b) then
  bif inRange 3 (List.length b) then
  let y0 : Int := IntKind.wrap .i64 (List.getD b 2 0)
  let y1 : Int := IntKind.wrap .i64 (y0 * 256)
  let y2 : Int := IntKind.wrap .i64 (List.getD b 3 0)
  let y3 : Int := IntKind.wrap .i64 (y1 + y2)
  bif decide (y3 < 8) then
    some (((List.length b : Nat) : Int), true)
  else
  some (y3, decide (y3 ≤ ((List.length b : Nat) : Int)))
  else none
  else none

def ref16_List.s0 (n : Nat) (k0 : ((List Int) → (List (List Int)) → Option (List (List Int)))) (b_1 : (List Int)) (out : (List (List Int))) : Option (List (List Int)) :=
  obind (ref16_says b_1) fun (r152 : (Int × Bool)) =>
  bif !r152.2 then
    some out
  else
  bif ((decide (0 ≤ r152.1)) && (decide (r152.1 ≤ ((List.length b_1 : Nat) : Int)))) then
  let y0 : (List Int) := sub b_1 0 (Int.toNat r152.1)
  bif decide ((List.length ([] : (List Int)) + List.length y0) * 1 ≤ 140737488355328) then
  let y1 : (List Int) := (([] : (List Int)) ++ y0)
  bif decide ((List.length out + List.length ([y1] : (List (List Int)))) * 24 ≤ 140737488355328) then
  bif ((decide (0 ≤ r152.1)) && (decide (r152.1 ≤ ((List.length b_1 : Nat) : Int)))) then
  k0 (List.drop (Int.toNat r152.1) b_1) (out ++ ([y1] : (List (List Int))))
  else none
  else none
  else none
  else none

def ref16_List.l0 (n : Nat) : Nat → (List Int) → (List (List Int)) → Option (List (List Int))
  | 0, _, _ => none
  | m + 1, b_1, out => ref16_List.s0 n (fun b_1' out' => ref16_List.l0 n m b_1' out') b_1 out

def ref16_List.s (n : Nat) (k0 : ((List Int) → (List (List Int)) → Option (List (List Int)))) (b : (List Int)) : Option (List (List Int)) :=
  k0 b ([] : (List (List Int)))

def ref16_List (n : Nat) (b : (List Int)) : Option (List (List Int)) := ref16_List.s n (fun b_1 out => ref16_List.l0 n n b_1 out) b

def slices_EqualFunc_Lbyte.s0 (n : Nat) (k0 : (Int → Option Bool)) (s2_1 : (List (List Int))) (eq_1 : (((List Int) × (List Int)) → Option Bool)) (v15 : (List (List Int))) (v16 : Int) (v17 : Int) : Option Bool :=
  bif decide (v17 < v16) then
    bif inRange v17 (List.length v15) then
    bif inRange v17 (List.length s2_1) then
    obind (eq_1 ((List.getD v15 (Int.toNat v17) ([] : (List Int))), (List.getD s2_1 (Int.toNat v17) ([] : (List Int))))) fun (r155 : Bool) =>
    bif !r155 then
      some false
    else
    k0 (IntKind.wrap .i64 (v17 + 1))
    else none
    else none
  else
  some true

def slices_EqualFunc_Lbyte.l0 (n : Nat) (s2_1 : (List (List Int))) (eq_1 : (((List Int) × (List Int)) → Option Bool)) (v15 : (List (List Int))) (v16 : Int) : Nat → Int → Option Bool
  | 0, _ => none
  | m + 1, v17 => slices_EqualFunc_Lbyte.s0 n (fun v17' => slices_EqualFunc_Lbyte.l0 n s2_1 eq_1 v15 v16 m v17') s2_1 eq_1 v15 v16 v17

def slices_EqualFunc_Lbyte.s (n : Nat) (k0 : ((List (List Int)) → (((List Int) × (List Int)) → Option Bool) → (List (List Int)) → Int → Int → Option Bool)) (s1 : (List (List Int))) (s2 : (List (List Int))) (eq : (((List Int) × (List Int)) → Option Bool)) : Option Bool :=
  bif (((List.length s1 : Nat) : Int) != ((List.length s2 : Nat) : Int)) then
    some false
  else
  k0 s2 eq s1 ((List.length s1 : Nat) : Int) 0

def slices_EqualFunc_Lbyte (n : Nat) (s1 : (List (List Int))) (s2 : (List (List Int))) (eq : (((List Int) × (List Int)) → Option Bool)) : Option Bool := slices_EqualFunc_Lbyte.s n (fun s2_1 eq_1 v15 v16 v17 => slices_EqualFunc_Lbyte.l0 n s2_1 eq_1 v15 v16 n v17) s1 s2 eq

def bytes_Equal_c (a : (List Int)) (b : (List Int)) : Bool :=
  ((bytesOf a) == (bytesOf b))

def law16_all.z0 (n : Nat) (most_1 : Int) (out : (List (List Int))) : Option (List (List Int)) :=
  some out

def law16_all.s0 (n : Nat) (k0 : ((List (List Int)) → Option (List (List Int)))) (most_1 : Int) (out : (List (List Int))) (x : (List Int)) : Option (List (List Int)) :=
  bif decide ((List.length out + List.length ([x] : (List (List Int)))) * 24 ≤ 140737488355328) then
  let y0 : (List (List Int)) := (out ++ ([x] : (List (List Int))))
  bif decide (((List.length y0 : Nat) : Int) ≥ most_1) then
    some y0
  else
  k0 y0
  else none

def law16_all.l0 (n : Nat) (most_1 : Int) : (List (List Int)) → (List (List Int)) → Option (List (List Int))
  | [], out => law16_all.z0 n most_1 out
  | x :: xs, out => law16_all.s0 n (fun out' => law16_all.l0 n most_1 xs out') most_1 out x

def law16_all.s (n : Nat) (k0 : ((List (List Int)) → Int → (List (List Int)) → Option (List (List Int)))) (b : (List Int)) (most : Int) : Option (List (List Int)) :=
  obind (frame_Split n b) fun (r158 : (List (List Int))) =>
  k0 r158 most ([] : (List (List Int)))

def law16_all (n : Nat) (b : (List Int)) (most : Int) : Option (List (List Int)) := law16_all.s n (fun xs most_1 out => law16_all.l0 n most_1 xs out) b most

def law16_all.τs : List Ty := [(.slc (.int .u8)), (.int .i64)]

def ref16_Rest.s0 (n : Nat) (k0 : ((List Int) → Option (List Int))) (b_1 : (List Int)) : Option (List Int) :=
  obind (ref16_says b_1) fun (r163 : (Int × Bool)) =>
  bif !r163.2 then
    bif decide ((List.length ([] : (List Int)) + List.length b_1) * 1 ≤ 140737488355328) then
    some (([] : (List Int)) ++ b_1)
    else none
  else
  bif ((decide (0 ≤ r163.1)) && (decide (r163.1 ≤ ((List.length b_1 : Nat) : Int)))) then
  k0 (List.drop (Int.toNat r163.1) b_1)
  else none

def ref16_Rest.l0 (n : Nat) : Nat → (List Int) → Option (List Int)
  | 0, _ => none
  | m + 1, b_1 => ref16_Rest.s0 n (fun b_1' => ref16_Rest.l0 n m b_1') b_1

def ref16_Rest.s (n : Nat) (k0 : ((List Int) → Option (List Int))) (b : (List Int)) : Option (List Int) :=
  k0 b

def ref16_Rest (n : Nat) (b : (List Int)) : Option (List Int) := ref16_Rest.s n (fun b_1 => ref16_Rest.l0 n n b_1) b

def law16_FrameSplits (n : Nat) (b : (List Int)) (most : Int) : Option Bool :=
  obind (law16_awake n) fun (r148 : Bool) =>
  bif ((!r148) == false) then
    obind (frame_Split n b) fun (r149 : (List (List Int))) =>
    bif decide (((List.length b : Nat) : Int) > 4000) then
      obind (law16_awake n) fun (r150 : Bool) =>
      bif (r150 == true) then
        obind (frame_Split n b) fun (r151 : (List (List Int))) =>
        some true
      else
      some false
    else
    obind (ref16_List n b) fun (r153 : (List (List Int))) =>
    obind (frame_List n b) fun (r154 : (List (List Int))) =>
    obind (slices_EqualFunc_Lbyte n r154 r153 (fun (x156 : ((List Int) × (List Int))) => some (bytes_Equal_c x156.1 x156.2))) fun (r157 : Bool) =>
    bif (r157 == true) then
      let y0 : Int := IntKind.wrap .i64 (1 + (IntKind.wrap .i64 most))
      obind (law16_all n b y0) fun (r159 : (List (List Int))) =>
      let y1 : Int := minI y0 ((List.length r153 : Nat) : Int)
      bif ((decide (0 ≤ y1)) && (decide (y1 ≤ ((List.length r153 : Nat) : Int)))) then
      obind (slices_EqualFunc_Lbyte n r159 (sub r153 0 (Int.toNat y1)) (fun (x160 : ((List Int) × (List Int))) => some (bytes_Equal_c x160.1 x160.2))) fun (r161 : Bool) =>
      bif (r161 == true) then
        obind (frame_Rest n b) fun (r162 : (List Int)) =>
        obind (ref16_Rest n b) fun (r164 : (List Int)) =>
        obind (some (bytes_Equal r162 r164)) fun (r165 : Bool) =>
        some r165
      else
      some false
      else none
    else
    some false
  else
  obind (law16_awake n) fun (r166 : Bool) =>
  bif (r166 == true) then
    obind (frame_Split n b) fun (r167 : (List (List Int))) =>
    some true
  else
  some false

def law16_FrameSplits.τs : List Ty := [(.slc (.int .u8)), (.int .u8)]

def law16_FrameHeads (n : Nat) (kind : Int) (xid : Int) (body : (List Int)) : Option Bool :=
  bif decide (((List.length body : Nat) : Int) > 70000) then
    obind (law16_awake n) fun (r168 : Bool) =>
    some r168
  else
  obind (frame_Head n kind xid body) fun (r169 : ((List Int) × Int)) =>
  obind (ref16_Head n kind xid body) fun (r170 : ((List Int) × Int)) =>
  obind (some (bytes_Equal r169.1 r170.1)) fun (r171 : Bool) =>
  bif (r171 == true) then
    bif ((r169.2 == r170.2) == true) then
      obind (law16_awake n) fun (r172 : Bool) =>
      some r172
    else
    some false
  else
  some false

def law16_FrameHeads.τs : List Ty := [(.int .i64), (.int .i64), (.slc (.int .u8))]

def law19_FaultBack (n : Nat) (kind : Int) (code : Int) (message : (List Int)) : Option Bool :=
  bif decide (((List.length message : Nat) : Int) > 4000) then
    obind (law19_awake n) fun (r173 : Bool) =>
    some r173
  else
  obind (some (fault_Of (IntKind.wrap .i64 kind) (IntKind.wrap .i64 code))) fun (r174 : Fault) =>
  obind (fault_Reply n r174 message) fun (r175 : (List Int)) =>
  bif ((decide (((List.length r175 : Nat) : Int) < 12)) == false) then
    obind (frame_List n r175) fun (r176 : (List (List Int))) =>
    bif ((((List.length r176 : Nat) : Int) != 1) == false) then
      bif ((decide (((List.length message : Nat) : Int) ≥ 8)) == true) then
        bif decide (8 ≤ ((List.length r175 : Nat) : Int)) then
        bif decide (8 ≤ ((List.length message : Nat) : Int)) then
        obind (some (bytes_Equal (sub r175 4 8) (sub message 4 8))) fun (r177 : Bool) =>
        bif !r177 then
          some false
        else
        bif decide (8 ≤ ((List.length r175 : Nat) : Int)) then
        obind (fault_Parse n (List.drop 8 r175)) fun (r178 : (Fault × (List Int) × Bool)) =>
        bif (r178.2.2 == true) then
          obind (some (fault_Of (IntKind.wrap .i64 kind) (IntKind.wrap .i64 code))) fun (r179 : Fault) =>
          bif ((beqT TFault r178.1 r179) == true) then
            let y0 : Int := minI 64 ((List.length message : Nat) : Int)
            bif ((decide (0 ≤ y0)) && (decide (y0 ≤ ((List.length message : Nat) : Int)))) then
            obind (some (bytes_Equal r178.2.1 (sub message 0 (Int.toNat y0)))) fun (r180 : Bool) =>
            bif (r180 == true) then
              obind (law19_awake n) fun (r181 : Bool) =>
              some r181
            else
            some false
            else none
          else
          some false
        else
        some false
        else none
        else none
        else none
      else
      bif decide (8 ≤ ((List.length r175 : Nat) : Int)) then
      obind (fault_Parse n (List.drop 8 r175)) fun (r182 : (Fault × (List Int) × Bool)) =>
      bif (r182.2.2 == true) then
        obind (some (fault_Of (IntKind.wrap .i64 kind) (IntKind.wrap .i64 code))) fun (r183 : Fault) =>
        bif ((beqT TFault r182.1 r183) == true) then
          let y1 : Int := minI 64 ((List.length message : Nat) : Int)
          bif ((decide (0 ≤ y1)) && (decide (y1 ≤ ((List.length message : Nat) : Int)))) then
          obind (some (bytes_Equal r182.2.1 (sub message 0 (Int.toNat y1)))) fun (r184 : Bool) =>
          bif (r184 == true) then
            obind (law19_awake n) fun (r185 : Bool) =>
            some r185
          else
          some false
          else none
        else
        some false
      else
      some false
      else none
    else
    some false
  else
  some false

def law19_FaultBack.τs : List Ty := [(.int .u16), (.int .u16), (.slc (.int .u8))]

def bytes_Join (l : List (List Int)) (sep : List Int) : Option (List Int) := bif decide (sep.length = 0) && (l.all (fun x => x.all (fun n => decide (0 ≤ n) && decide (n ≤ 255))) && (decide (l.flatten.length ≤ 140737488355328) && decide (l.length ≤ 140737488355328))) then some l.flatten else none

def law16_FrameAll (n : Nat) (b : (List Int)) : Option Bool :=
  bif decide (((List.length b : Nat) : Int) > 4000) then
    obind (law16_awake n) fun (r186 : Bool) =>
    some r186
  else
  obind (frame_List n b) fun (r187 : (List (List Int))) =>
  obind (bytes_Join r187 ([] : (List Int))) fun (r188 : (List Int)) =>
  obind (frame_Rest n b) fun (r189 : (List Int)) =>
  bif decide ((List.length r188 + List.length r189) * 1 ≤ 140737488355328) then
  obind (some (bytes_Equal (r188 ++ r189) b)) fun (r190 : Bool) =>
  bif (r190 == true) then
    obind (law16_awake n) fun (r191 : Bool) =>
    some r191
  else
  some false
  else none

def law16_FrameAll.τs : List Ty := [(.slc (.int .u8))]

def slices_IndexFunc_Lbyte.s0 (n : Nat) (k0 : (Int → Option Int)) (s_1 : (List (List Int))) (f_1 : ((List Int) → Option Bool)) (v7 : Int) (v8 : Int) : Option Int :=
  bif decide (v8 < v7) then
    bif inRange v8 (List.length s_1) then
    obind (f_1 (List.getD s_1 (Int.toNat v8) ([] : (List Int)))) fun (r192 : Bool) =>
    bif r192 then
      some v8
    else
    k0 (IntKind.wrap .i64 (v8 + 1))
    else none
  else
  some (-1)

def slices_IndexFunc_Lbyte.l0 (n : Nat) (s_1 : (List (List Int))) (f_1 : ((List Int) → Option Bool)) (v7 : Int) : Nat → Int → Option Int
  | 0, _ => none
  | m + 1, v8 => slices_IndexFunc_Lbyte.s0 n (fun v8' => slices_IndexFunc_Lbyte.l0 n s_1 f_1 v7 m v8') s_1 f_1 v7 v8

def slices_IndexFunc_Lbyte.s (n : Nat) (k0 : ((List (List Int)) → ((List Int) → Option Bool) → Int → Int → Option Int)) (s : (List (List Int))) (f : ((List Int) → Option Bool)) : Option Int :=
  k0 s f ((List.length s : Nat) : Int) 0

def slices_IndexFunc_Lbyte (n : Nat) (s : (List (List Int))) (f : ((List Int) → Option Bool)) : Option Int := slices_IndexFunc_Lbyte.s n (fun s_1 f_1 v7 v8 => slices_IndexFunc_Lbyte.l0 n s_1 f_1 v7 n v8) s f

def slices_ContainsFunc_Lbyte (n : Nat) (s : (List (List Int))) (f : ((List Int) → Option Bool)) : Option Bool :=
  obind (slices_IndexFunc_Lbyte n s f) fun (r193 : Int) =>
  some (decide (r193 ≥ 0))

def law16_FrameBack_1_c (b : (List Int)) : Bool :=
  decide (((List.length b : Nat) : Int) > 400)

def law16_FrameBack.s0 (n : Nat) (k0 : ((List (List Int)) → Int → Option Bool)) (kind_1 : Int) (xid_1 : Int) (rest_1 : (List Int)) (l : (List (List Int))) (v28 : (List (List Int))) (v29 : Int) (v30 : Int) : Option Bool :=
  bif decide (v30 < v29) then
    bif inRange v30 (List.length v28) then
    let y0 : (List Int) := List.getD v28 (Int.toNat v30) ([] : (List Int))
    obind (frame_Head n (IntKind.wrap .i64 kind_1) (IntKind.wrap .i64 xid_1) y0) fun (r197 : ((List Int) × Int)) =>
    bif ((r197.2 != 0) == false) then
      bif ((((List.length r197.1 : Nat) : Int) != (IntKind.wrap .i64 (8 + ((List.length y0 : Nat) : Int)))) == false) then
        bif decide (8 ≤ ((List.length r197.1 : Nat) : Int)) then
        obind (some (bytes_Equal (List.drop 8 r197.1) y0)) fun (r198 : Bool) =>
        bif !r198 then
          some false
        else
        bif decide ((List.length l + List.length ([r197.1] : (List (List Int)))) * 24 ≤ 140737488355328) then
        k0 (l ++ ([r197.1] : (List (List Int)))) (IntKind.wrap .i64 (v30 + 1))
        else none
        else none
      else
      some false
    else
    some false
    else none
  else
  obind (bytes_Join l ([] : (List Int))) fun (r199 : (List Int)) =>
  bif decide ((List.length r199 + List.length rest_1) * 1 ≤ 140737488355328) then
  obind (frame_List n (r199 ++ rest_1)) fun (r200 : (List (List Int))) =>
  obind (slices_EqualFunc_Lbyte n r200 l (fun (x201 : ((List Int) × (List Int))) => some (bytes_Equal_c x201.1 x201.2))) fun (r202 : Bool) =>
  bif (r202 == true) then
    obind (frame_Rest n (r199 ++ rest_1)) fun (r203 : (List Int)) =>
    obind (some (bytes_Equal r203 rest_1)) fun (r204 : Bool) =>
    bif (r204 == true) then
      obind (law16_awake n) fun (r205 : Bool) =>
      some r205
    else
    some false
  else
  some false
  else none

def law16_FrameBack.l0 (n : Nat) (kind_1 : Int) (xid_1 : Int) (rest_1 : (List Int)) (v28 : (List (List Int))) (v29 : Int) : Nat → (List (List Int)) → Int → Option Bool
  | 0, _, _ => none
  | m + 1, l, v30 => law16_FrameBack.s0 n (fun l' v30' => law16_FrameBack.l0 n kind_1 xid_1 rest_1 v28 v29 m l' v30') kind_1 xid_1 rest_1 l v28 v29 v30

def law16_FrameBack.s (n : Nat) (k0 : (Int → Int → (List Int) → (List (List Int)) → (List (List Int)) → Int → Int → Option Bool)) (kind : Int) (xid : Int) (bodies : (List (List Int))) (rest : (List Int)) : Option Bool :=
  bif ((decide (((List.length bodies : Nat) : Int) > 20)) == false) then
    obind (slices_ContainsFunc_Lbyte n bodies (fun (x194 : (List Int)) => some (law16_FrameBack_1_c x194))) fun (r195 : Bool) =>
    bif (r195 == false) then
      bif decide (((List.length rest : Nat) : Int) > 7) then
        obind (law16_awake n) fun (r196 : Bool) =>
        some r196
      else
      k0 kind xid rest ([] : (List (List Int))) bodies ((List.length bodies : Nat) : Int) 0
    else
    obind (law16_awake n) fun (r206 : Bool) =>
    some r206
  else
  obind (law16_awake n) fun (r207 : Bool) =>
  some r207

def law16_FrameBack (n : Nat) (kind : Int) (xid : Int) (bodies : (List (List Int))) (rest : (List Int)) : Option Bool := law16_FrameBack.s n (fun kind_1 xid_1 rest_1 l v28 v29 v30 => law16_FrameBack.l0 n kind_1 xid_1 rest_1 v28 v29 n l v30) kind xid bodies rest

def law16_FrameBack.τs : List Ty := [(.int .u8), (.int .u32), (.slc (.slc (.int .u8))), (.slc (.int .u8))]

end Go.Fn
