/- What the functions compute, as native texts: written by the session's program gen.py out of the translation. -/
import Derived.Test.YtpiboooclejjcaaViB
set_option linter.unusedVariables false
namespace Go.Fn
open Go Go.Vi

abbrev Wide := (Int × Int)
abbrev TWide : Ty := (.pair (.int .u64) (.int .u64))
abbrev Tern := (Wide × Wide)
abbrev TTern : Ty := (.pair TWide TWide)
abbrev Header := (List Wide)
abbrev THeader : Ty := (.arr 24 TWide)
abbrev Cube := (List Tern)
abbrev TCube : Ty := (.arr 24 TTern)

def wide_And (a : Wide) (b : Wide) : Wide :=
  (bitsI .and .u64 a.1 b.1, bitsI .and .u64 a.2 b.2)

def wide_Xor (a : Wide) (b : Wide) : Wide :=
  (bitsI .xor .u64 a.1 b.1, bitsI .xor .u64 a.2 b.2)

def tern_unlike (a : Wide) (b : Wide) (mask : Wide) : Wide :=
  let r2 : Wide := wide_Xor a b
  let r3 : Wide := wide_And r2 mask
  r3

def wide_Zero (a : Wide) : Bool :=
  ((bitsI .or .u64 a.1 a.2) == 0)

def tern_Has (t : Tern) (v : Wide) : Bool :=
  let r4 : Wide := tern_unlike t.1 v t.2
  let r5 : Bool := wide_Zero r4
  r5

def tern_Clean (t : Tern) : Tern :=
  let r7 : Wide := wide_And t.1 t.2
  (r7, t.2)

def wide_Or (a : Wide) (b : Wide) : Wide :=
  (bitsI .or .u64 a.1 b.1, bitsI .or .u64 a.2 b.2)

def tern_Meet (a : Tern) (b : Tern) : (Tern × Bool) :=
  let r1 : Wide := wide_And a.2 b.2
  let r6 : Bool := tern_Has (a.1, r1) b.1
  bif !r6 then
    (((0, 0), 0, 0), false)
  else
  let r8 : Tern := tern_Clean a
  let r9 : Tern := tern_Clean b
  let r10 : Wide := wide_Or r8.1 r9.1
  let r11 : Wide := wide_Or r8.2 r9.2
  ((r10, r11), true)
def tern_Meet.o (a : Tern) (b : Tern) : Option (Tern × Bool) :=
  obind (some (wide_And a.2 b.2)) fun (r1 : Wide) =>
  obind (some (tern_Has (a.1, r1) b.1)) fun (r6 : Bool) =>
  bif !r6 then
    some (((0, 0), 0, 0), false)
  else
  obind (some (tern_Clean a)) fun (r8 : Tern) =>
  obind (some (tern_Clean b)) fun (r9 : Tern) =>
  obind (some (wide_Or r8.1 r9.1)) fun (r10 : Wide) =>
  obind (some (wide_Or r8.2 r9.2)) fun (r11 : Wide) =>
  some ((r10, r11), true)
theorem tern_Meet.o_eq (a : Tern) (b : Tern) : tern_Meet.o a b = some (tern_Meet a b) := by simp only [tern_Meet.o, tern_Meet, cond_some, obind_some]

def ref02_And (a : Wide) (b : Wide) : Wide :=
  (bitsI .and .u64 a.1 b.1, bitsI .and .u64 a.2 b.2)

def ref02_Xor (a : Wide) (b : Wide) : Wide :=
  (bitsI .xor .u64 a.1 b.1, bitsI .xor .u64 a.2 b.2)

def ref02_Zero (a : Wide) : Bool :=
  bif ((a.1 == 0) == true) then
    (a.2 == 0)
  else
  false
def ref02_Zero.o (a : Wide) : Option Bool :=
  bif ((a.1 == 0) == true) then
    some (a.2 == 0)
  else
  some false
theorem ref02_Zero.o_eq (a : Wide) : ref02_Zero.o a = some (ref02_Zero a) := by simp only [ref02_Zero.o, ref02_Zero, cond_some, obind_some]

def ref05_Clean (t : Tern) : Tern :=
  let r17 : Wide := ref02_And t.1 t.2
  (r17, t.2)

def ref02_Or (a : Wide) (b : Wide) : Wide :=
  (bitsI .or .u64 a.1 b.1, bitsI .or .u64 a.2 b.2)

def ref05_Meet (a : Tern) (b : Tern) : (Tern × Bool) :=
  let r13 : Wide := ref02_And a.2 b.2
  let r14 : Wide := ref02_Xor a.1 b.1
  let r15 : Wide := ref02_And r14 r13
  let r16 : Bool := ref02_Zero r15
  bif !r16 then
    (((0, 0), 0, 0), false)
  else
  let r18 : Tern := ref05_Clean a
  let r19 : Tern := ref05_Clean b
  let r20 : Wide := ref02_Or r18.1 r19.1
  let r21 : Wide := ref02_Or r18.2 r19.2
  ((r20, r21), true)
def ref05_Meet.o (a : Tern) (b : Tern) : Option (Tern × Bool) :=
  obind (some (ref02_And a.2 b.2)) fun (r13 : Wide) =>
  obind (some (ref02_Xor a.1 b.1)) fun (r14 : Wide) =>
  obind (some (ref02_And r14 r13)) fun (r15 : Wide) =>
  obind (some (ref02_Zero r15)) fun (r16 : Bool) =>
  bif !r16 then
    some (((0, 0), 0, 0), false)
  else
  obind (some (ref05_Clean a)) fun (r18 : Tern) =>
  obind (some (ref05_Clean b)) fun (r19 : Tern) =>
  obind (some (ref02_Or r18.1 r19.1)) fun (r20 : Wide) =>
  obind (some (ref02_Or r18.2 r19.2)) fun (r21 : Wide) =>
  some ((r20, r21), true)
theorem ref05_Meet.o_eq (a : Tern) (b : Tern) : ref05_Meet.o a b = some (ref05_Meet a b) := by simp only [ref05_Meet.o, ref05_Meet, cond_some, obind_some]

def ref05_Has (t : Tern) (v : Wide) : Bool :=
  let r24 : Wide := ref02_Xor t.1 v
  let r25 : Wide := ref02_And r24 t.2
  let r26 : Bool := ref02_Zero r25
  r26

def wide_Less (a : Wide) (b : Wide) : Wide :=
  (bitsI .andNot .u64 a.1 b.1, bitsI .andNot .u64 a.2 b.2)

def tern_Within (a : Tern) (b : Tern) : Bool :=
  let r28 : Wide := wide_Less b.2 a.2
  let r29 : Bool := wide_Zero r28
  bif (r29 == true) then
    let r30 : Bool := tern_Has b a.1
    r30
  else
  false
def tern_Within.o (a : Tern) (b : Tern) : Option Bool :=
  obind (some (wide_Less b.2 a.2)) fun (r28 : Wide) =>
  obind (some (wide_Zero r28)) fun (r29 : Bool) =>
  bif (r29 == true) then
    obind (some (tern_Has b a.1)) fun (r30 : Bool) =>
    some r30
  else
  some false
theorem tern_Within.o_eq (a : Tern) (b : Tern) : tern_Within.o a b = some (tern_Within a b) := by simp only [tern_Within.o, tern_Within, cond_some, obind_some]

def ref02_Less (a : Wide) (b : Wide) : Wide :=
  (bitsI .andNot .u64 a.1 b.1, bitsI .andNot .u64 a.2 b.2)

def ref05_Within (a : Tern) (b : Tern) : Bool :=
  let r32 : Wide := ref02_Less b.2 a.2
  let r33 : Bool := ref02_Zero r32
  bif (r33 == true) then
    let r34 : Wide := ref02_Xor a.1 b.1
    let r35 : Wide := ref02_And r34 b.2
    let r36 : Bool := ref02_Zero r35
    r36
  else
  false
def ref05_Within.o (a : Tern) (b : Tern) : Option Bool :=
  obind (some (ref02_Less b.2 a.2)) fun (r32 : Wide) =>
  obind (some (ref02_Zero r32)) fun (r33 : Bool) =>
  bif (r33 == true) then
    obind (some (ref02_Xor a.1 b.1)) fun (r34 : Wide) =>
    obind (some (ref02_And r34 b.2)) fun (r35 : Wide) =>
    obind (some (ref02_Zero r35)) fun (r36 : Bool) =>
    some r36
  else
  some false
theorem ref05_Within.o_eq (a : Tern) (b : Tern) : ref05_Within.o a b = some (ref05_Within a b) := by simp only [ref05_Within.o, ref05_Within, cond_some, obind_some]

def math_bits_OnesCount64 (x : Int) : Int :=
  let y0 : Int := IntKind.wrap .u64 ((bitsI .and .u64 (shrI .u64 x 1) 6148914691236517205) + (bitsI .and .u64 x 6148914691236517205))
  let y1 : Int := IntKind.wrap .u64 ((bitsI .and .u64 (shrI .u64 y0 2) 3689348814741910323) + (bitsI .and .u64 y0 3689348814741910323))
  let y2 : Int := bitsI .and .u64 (IntKind.wrap .u64 ((shrI .u64 y1 4) + y1)) 1085102592571150095
  let y3 : Int := IntKind.wrap .u64 (y2 + (shrI .u64 y2 8))
  let y4 : Int := IntKind.wrap .u64 (y3 + (shrI .u64 y3 16))
  bitsI .and .i64 (IntKind.wrap .i64 (IntKind.wrap .u64 (y4 + (shrI .u64 y4 32)))) 127

def wide_Many (a : Wide) : Int :=
  let r39 : Int := math_bits_OnesCount64 a.1
  let r40 : Int := math_bits_OnesCount64 a.2
  IntKind.wrap .i64 (r39 + r40)

def wide_Bit (i : Int) : Option Wide :=
  bif ((decide (i < 0)) == false) then
    bif decide (i > 127) then
      some (0, 0)
    else
    bif !(decide ((Int.tmod i 64) < 0)) then
    bif inRange (IntKind.wrap .i64 (Int.tdiv i 64)) 2 then
    let y0 : (List Int) := List.set (List.replicate 2 0) (Int.toNat (IntKind.wrap .i64 (Int.tdiv i 64))) (shlI .u64 1 (Int.tmod i 64))
    some (List.getD y0 1 0, List.getD y0 0 0)
    else none
    else none
  else
  some (0, 0)

def wide_Has (a : Wide) (i : Int) : Option Bool :=
  obind (wide_Bit i) fun (r42 : Wide) =>
  obind (some (wide_And a r42)) fun (r43 : Wide) =>
  obind (some (wide_Zero r43)) fun (r44 : Bool) =>
  some (!r44)

def tern_Bits.s0 (n : Nat) (k0 : ((List Int) → Int → Option (List Int))) (out : (List Int)) (i : Int) (free : Wide) : Option (List Int) :=
  bif ((decide (i ≥ 0)) == true) then
    obind (some (wide_Many free)) fun (r41 : Int) =>
    bif decide (((List.length out : Nat) : Int) < r41) then
      obind (wide_Has free i) fun (r45 : Bool) =>
      bif r45 then
        bif decide ((List.length out + List.length ([i] : (List Int))) * 8 ≤ 140737488355328) then
        k0 (out ++ ([i] : (List Int))) (IntKind.wrap .i64 (i - 1))
        else none
      else
      k0 out (IntKind.wrap .i64 (i - 1))
    else
    some out
  else
  some out

def tern_Bits.l0 (n : Nat) (free : Wide) : Nat → (List Int) → Int → Option (List Int)
  | 0, _, _ => none
  | m + 1, out, i => tern_Bits.s0 n (fun out' i' => tern_Bits.l0 n free m out' i') out i free

def tern_Bits.s (n : Nat) (k0 : ((List Int) → Int → Wide → Option (List Int))) (a : Tern) (b : Tern) : Option (List Int) :=
  obind (some (wide_Less b.2 a.2)) fun (r38 : Wide) =>
  k0 ([] : (List Int)) 127 r38

def tern_Bits (n : Nat) (a : Tern) (b : Tern) : Option (List Int) := tern_Bits.s n (fun out i free => tern_Bits.l0 n free n out i) a b

def ref02_Bit (i : Int) : Option Wide :=
  bif ((decide (i < 0)) == false) then
    bif decide (i > 127) then
      some (0, 0)
    else
    bif decide (i < 64) then
      bif !(decide ((IntKind.wrap .u64 i) < 0)) then
      some (0, shlI .u64 1 (IntKind.wrap .u64 i))
      else none
    else
    let y0 : Int := IntKind.wrap .u64 (IntKind.wrap .i64 (i - 64))
    bif !(decide (y0 < 0)) then
    some (shlI .u64 1 y0, 0)
    else none
  else
  some (0, 0)

def ref02_Has (a : Wide) (i : Int) : Option Bool :=
  obind (ref02_Bit i) fun (r47 : Wide) =>
  obind (some (ref02_And a r47)) fun (r48 : Wide) =>
  obind (some (ref02_Zero r48)) fun (r49 : Bool) =>
  some (!r49)

def ref05_Bits.s0 (n : Nat) (k0 : ((List Int) → Int → Option (List Int))) (out : (List Int)) (i : Int) (a_1 : Tern) (b_1 : Tern) : Option (List Int) :=
  bif decide (i ≥ 0) then
    obind (ref02_Has b_1.2 i) fun (r50 : Bool) =>
    bif (r50 == true) then
      obind (ref02_Has a_1.2 i) fun (r51 : Bool) =>
      bif !r51 then
        bif decide ((List.length out + List.length ([i] : (List Int))) * 8 ≤ 140737488355328) then
        k0 (out ++ ([i] : (List Int))) (IntKind.wrap .i64 (i - 1))
        else none
      else
      k0 out (IntKind.wrap .i64 (i - 1))
    else
    k0 out (IntKind.wrap .i64 (i - 1))
  else
  some out

def ref05_Bits.l0 (n : Nat) (a_1 : Tern) (b_1 : Tern) : Nat → (List Int) → Int → Option (List Int)
  | 0, _, _ => none
  | m + 1, out, i => ref05_Bits.s0 n (fun out' i' => ref05_Bits.l0 n a_1 b_1 m out' i') out i a_1 b_1

def ref05_Bits.s (n : Nat) (k0 : ((List Int) → Int → Tern → Tern → Option (List Int))) (a : Tern) (b : Tern) : Option (List Int) :=
  k0 ([] : (List Int)) 127 a b

def ref05_Bits (n : Nat) (a : Tern) (b : Tern) : Option (List Int) := ref05_Bits.s n (fun out i a_1 b_1 => ref05_Bits.l0 n a_1 b_1 n out i) a b

def slices_Equal_int.s0 (n : Nat) (k0 : (Int → Option Bool)) (s1_1 : (List Int)) (s2_1 : (List Int)) (v12 : Int) (v13 : Int) : Option Bool :=
  bif decide (v13 < v12) then
    bif inRange v13 (List.length s1_1) then
    bif inRange v13 (List.length s2_1) then
    bif ((List.getD s1_1 (Int.toNat v13) 0) != (List.getD s2_1 (Int.toNat v13) 0)) then
      some false
    else
    k0 (IntKind.wrap .i64 (v13 + 1))
    else none
    else none
  else
  some true

def slices_Equal_int.l0 (n : Nat) (s1_1 : (List Int)) (s2_1 : (List Int)) (v12 : Int) : Nat → Int → Option Bool
  | 0, _ => none
  | m + 1, v13 => slices_Equal_int.s0 n (fun v13' => slices_Equal_int.l0 n s1_1 s2_1 v12 m v13') s1_1 s2_1 v12 v13

def slices_Equal_int.s (n : Nat) (k0 : ((List Int) → (List Int) → Int → Int → Option Bool)) (s1 : (List Int)) (s2 : (List Int)) : Option Bool :=
  bif (((List.length s1 : Nat) : Int) != ((List.length s2 : Nat) : Int)) then
    some false
  else
  k0 s1 s2 ((List.length s1 : Nat) : Int) 0

def slices_Equal_int (n : Nat) (s1 : (List Int)) (s2 : (List Int)) : Option Bool := slices_Equal_int.s n (fun s1_1 s2_1 v12 v13 => slices_Equal_int.l0 n s1_1 s2_1 v12 n v13) s1 s2

def tern_Fix (t : Tern) (i : Int) (on : Bool) : Option Tern :=
  obind (wide_Bit i) fun (r56 : Wide) =>
  obind (some (tern_Clean t)) fun (r57 : Tern) =>
  obind (some (wide_Or r57.2 r56)) fun (r58 : Wide) =>
  obind (some (wide_Less r57.1 r56)) fun (r59 : Wide) =>
  bif on then
    obind (some (wide_Or r59 r56)) fun (r60 : Wide) =>
    some (r60, r58)
  else
  some (r59, r58)

def ref05_Fix (t : Tern) (i : Int) (on : Bool) : Option Tern :=
  obind (some (ref05_Clean t)) fun (r62 : Tern) =>
  obind (ref02_Bit i) fun (r63 : Wide) =>
  obind (some (ref02_Or r62.2 r63)) fun (r64 : Wide) =>
  obind (some (ref02_Less r62.1 r63)) fun (r65 : Wide) =>
  bif on then
    obind (some (ref02_Or r65 r63)) fun (r66 : Wide) =>
    some (r66, r64)
  else
  some (r65, r64)

def law05_awake (n : Nat) : Option Bool :=
  obind (some (tern_Meet ((0, 1), 0, 1) ((0, 0), 0, 1))) fun (r68 : (Tern × Bool)) =>
  obind (some (tern_Meet ((0, 1), 0, 1) ((0, 3), 0, 2))) fun (r69 : (Tern × Bool)) =>
  bif ((!r68.2) == true) then
    bif (r69.2 == true) then
      bif ((r69.1.1.2 == 3) == true) then
        obind (some (tern_Has ((0, 1), 0, 1) (0, 5))) fun (r70 : Bool) =>
        bif (r70 == true) then
          obind (some (tern_Within r69.1 ((0, 1), 0, 1))) fun (r71 : Bool) =>
          bif (r71 == true) then
            obind (tern_Bits n ((0, 1), 0, 1) r69.1) fun (r72 : (List Int)) =>
            obind (slices_Equal_int n r72 ([1] : (List Int))) fun (r73 : Bool) =>
            bif (r73 == true) then
              obind (tern_Fix ((0, 1), 0, 1) 0 false) fun (r74 : Tern) =>
              bif ((r74.2.2 == 1) == true) then
                obind (some (tern_Clean ((0, 7), 0, 1))) fun (r75 : Tern) =>
                some (beqT TTern r75 ((0, 1), 0, 1))
              else
              some false
            else
            some false
          else
          some false
        else
        some false
      else
      some false
    else
    some false
  else
  some false

def law05_awake.τs : List Ty := []

def law05_TernTells (n : Nat) (a : Tern) (b : Tern) (v : Wide) (i : Int) (on : Bool) : Option Bool :=
  obind (some (tern_Meet a b)) fun (r12 : (Tern × Bool)) =>
  obind (some (ref05_Meet a b)) fun (r22 : (Tern × Bool)) =>
  bif ((beqT TTern r12.1 r22.1) == true) then
    bif ((r12.2 == r22.2) == true) then
      obind (some (tern_Has a v)) fun (r23 : Bool) =>
      obind (some (ref05_Has a v)) fun (r27 : Bool) =>
      bif ((r23 == r27) == true) then
        obind (some (tern_Within a b)) fun (r31 : Bool) =>
        obind (some (ref05_Within a b)) fun (r37 : Bool) =>
        bif ((r31 == r37) == true) then
          obind (tern_Bits n a b) fun (r46 : (List Int)) =>
          obind (ref05_Bits n a b) fun (r52 : (List Int)) =>
          obind (slices_Equal_int n r46 r52) fun (r53 : Bool) =>
          bif (r53 == true) then
            obind (some (tern_Clean a)) fun (r54 : Tern) =>
            obind (some (ref05_Clean a)) fun (r55 : Tern) =>
            bif ((beqT TTern r54 r55) == true) then
              obind (tern_Fix a i on) fun (r61 : Tern) =>
              obind (ref05_Fix a i on) fun (r67 : Tern) =>
              bif ((beqT TTern r61 r67) == true) then
                obind (law05_awake n) fun (r76 : Bool) =>
                some r76
              else
              some false
            else
            some false
          else
          some false
        else
        some false
      else
      some false
    else
    some false
  else
  some false

def law05_TernTells.τs : List Ty := [TTern, TTern, TWide, (.int .i64), .bool]

def law05_TernMeet (n : Nat) (a : Tern) (b : Tern) (v : Wide) : Option Bool :=
  obind (some (tern_Meet a b)) fun (r77 : (Tern × Bool)) =>
  obind (some (tern_Has a v)) fun (r78 : Bool) =>
  bif (r78 == true) then
    obind (some (tern_Has b v)) fun (r79 : Bool) =>
    bif (r77.2 == true) then
      obind (some (tern_Has r77.1 v)) fun (r80 : Bool) =>
      bif ((r79 == r80) == true) then
        obind (law05_awake n) fun (r81 : Bool) =>
        some r81
      else
      some false
    else
    bif ((r79 == false) == true) then
      obind (law05_awake n) fun (r82 : Bool) =>
      some r82
    else
    some false
  else
  bif (r77.2 == true) then
    obind (some (tern_Has r77.1 v)) fun (r83 : Bool) =>
    bif ((false == r83) == true) then
      obind (law05_awake n) fun (r84 : Bool) =>
      some r84
    else
    some false
  else
  bif ((false == false) == true) then
    obind (law05_awake n) fun (r85 : Bool) =>
    some r85
  else
  some false

def law05_TernMeet.τs : List Ty := [TTern, TTern, TWide]

def law05_TernWithin (n : Nat) (a : Tern) (b : Tern) (v : Wide) : Option Bool :=
  obind (some (tern_Within a b)) fun (r86 : Bool) =>
  bif r86 then
    obind (some (tern_Has a v)) fun (r87 : Bool) =>
    bif ((!r87) == false) then
      obind (some (tern_Has b v)) fun (r88 : Bool) =>
      bif (r88 == true) then
        obind (law05_awake n) fun (r89 : Bool) =>
        some r89
      else
      some false
    else
    obind (law05_awake n) fun (r90 : Bool) =>
    some r90
  else
  obind (some (tern_Clean a)) fun (r91 : Tern) =>
  obind (tern_Bits n a b) fun (r92 : (List Int)) =>
  obind (some (tern_Has b r91.1)) fun (r93 : Bool) =>
  bif (r93 == true) then
    bif decide (((List.length r92 : Nat) : Int) > 0) then
      bif inRange 0 (List.length r92) then
      obind (wide_Bit (List.getD r92 0 0)) fun (r94 : Wide) =>
      obind (some (wide_Xor r91.1 r94)) fun (r95 : Wide) =>
      obind (some (tern_Has a r95)) fun (r96 : Bool) =>
      bif (r96 == true) then
        obind (some (tern_Has b r95)) fun (r97 : Bool) =>
        bif ((!r97) == true) then
          obind (law05_awake n) fun (r98 : Bool) =>
          some r98
        else
        some false
      else
      some false
      else none
    else
    obind (some (tern_Has a r91.1)) fun (r99 : Bool) =>
    bif (r99 == true) then
      obind (some (tern_Has b r91.1)) fun (r100 : Bool) =>
      bif ((!r100) == true) then
        obind (law05_awake n) fun (r101 : Bool) =>
        some r101
      else
      some false
    else
    some false
  else
  obind (some (tern_Has a r91.1)) fun (r102 : Bool) =>
  bif (r102 == true) then
    obind (some (tern_Has b r91.1)) fun (r103 : Bool) =>
    bif ((!r103) == true) then
      obind (law05_awake n) fun (r104 : Bool) =>
      some r104
    else
    some false
  else
  some false

def law05_TernWithin.τs : List Ty := [TTern, TTern, TWide]

def law05_TernFix (n : Nat) (t : Tern) (k1 : Int) (v : Wide) : Option Bool :=
  let y0 : Int := IntKind.wrap .i64 (Int.tmod k1 128)
  obind (tern_Fix t y0 true) fun (r105 : Tern) =>
  obind (some (tern_Has r105 v)) fun (r106 : Bool) =>
  obind (tern_Fix t y0 false) fun (r107 : Tern) =>
  obind (some (tern_Has r107 v)) fun (r108 : Bool) =>
  obind (wide_Has t.2 y0) fun (r109 : Bool) =>
  bif r109 then
    bif ((!r106) == false) then
      obind (wide_Has v y0) fun (r110 : Bool) =>
      bif (r110 == true) then
        bif ((!r108) == false) then
          obind (wide_Has v y0) fun (r111 : Bool) =>
          bif ((!r111) == true) then
            obind (law05_awake n) fun (r112 : Bool) =>
            some r112
          else
          some false
        else
        obind (law05_awake n) fun (r113 : Bool) =>
        some r113
      else
      some false
    else
    bif ((!r108) == false) then
      obind (wide_Has v y0) fun (r114 : Bool) =>
      bif ((!r114) == true) then
        obind (law05_awake n) fun (r115 : Bool) =>
        some r115
      else
      some false
    else
    obind (law05_awake n) fun (r116 : Bool) =>
    some r116
  else
  bif (r106 == true) then
    bif ((!r108) == true) then
      bif (r106 == false) then
        obind (some (tern_Has t v)) fun (r117 : Bool) =>
        bif ((r108 == r117) == true) then
          obind (law05_awake n) fun (r118 : Bool) =>
          some r118
        else
        some false
      else
      obind (some (tern_Has t v)) fun (r119 : Bool) =>
      bif ((true == r119) == true) then
        obind (law05_awake n) fun (r120 : Bool) =>
        some r120
      else
      some false
    else
    some false
  else
  bif (r106 == false) then
    obind (some (tern_Has t v)) fun (r121 : Bool) =>
    bif ((r108 == r121) == true) then
      obind (law05_awake n) fun (r122 : Bool) =>
      some r122
    else
    some false
  else
  obind (some (tern_Has t v)) fun (r123 : Bool) =>
  bif ((true == r123) == true) then
    obind (law05_awake n) fun (r124 : Bool) =>
    some r124
  else
  some false

def law05_TernFix.τs : List Ty := [TTern, (.int .u8), TWide]

def cube_Meet_1 (i : Int) (c0 : Cube) (c1 : Cube) : Option (Tern × Bool) :=
  bif inRange i 24 then
  bif inRange i 24 then
  obind (some (tern_Meet (List.getD c0 (Int.toNat i) ((0, 0), 0, 0)) (List.getD c1 (Int.toNat i) ((0, 0), 0, 0)))) fun (r125 : (Tern × Bool)) =>
  some (r125.1, r125.2)
  else none
  else none

def cube_each.s0 (n : Nat) (k0 : (Int → Cube → Option (Cube × Bool))) (f_1 : (Int → Option (Tern × Bool))) (v8 : Int) (v2 : Cube) (c : Cube) : Option (Cube × Bool) :=
  bif decide (v8 < 24) then
    obind (f_1 v8) fun (r127 : (Tern × Bool)) =>
    bif !r127.2 then
      some (([((0, 0), 0, 0), ((0, 0), 0, 0), ((0, 0), 0, 0), ((0, 0), 0, 0), ((0, 0), 0, 0), ((0, 0), 0, 0), ((0, 0), 0, 0), ((0, 0), 0, 0), ((0, 0), 0, 0), ((0, 0), 0, 0), ((0, 0), 0, 0), ((0, 0), 0, 0), ((0, 0), 0, 0), ((0, 0), 0, 0), ((0, 0), 0, 0), ((0, 0), 0, 0), ((0, 0), 0, 0), ((0, 0), 0, 0), ((0, 0), 0, 0), ((0, 0), 0, 0), ((0, 0), 0, 0), ((0, 0), 0, 0), ((0, 0), 0, 0), ((0, 0), 0, 0)] : Cube), false)
    else
    bif inRange v8 24 then
    k0 (IntKind.wrap .i64 (v8 + 1)) (List.set c (Int.toNat v8) r127.1)
    else none
  else
  some (c, true)

def cube_each.l0 (n : Nat) (f_1 : (Int → Option (Tern × Bool))) (v2 : Cube) : Nat → Int → Cube → Option (Cube × Bool)
  | 0, _, _ => none
  | m + 1, v8, c => cube_each.s0 n (fun v8' c' => cube_each.l0 n f_1 v2 m v8' c') f_1 v8 v2 c

def cube_each.s (n : Nat) (k0 : ((Int → Option (Tern × Bool)) → Int → Cube → Cube → Option (Cube × Bool))) (f : (Int → Option (Tern × Bool))) : Option (Cube × Bool) :=
  k0 f 0 (List.replicate 24 ((0, 0), 0, 0)) (List.replicate 24 ((0, 0), 0, 0))

def cube_each (n : Nat) (f : (Int → Option (Tern × Bool))) : Option (Cube × Bool) := cube_each.s n (fun f_1 v8 v2 c => cube_each.l0 n f_1 v2 n v8 c) f

def cube_Meet (n : Nat) (a : Cube) (b : Cube) : Option (Cube × Bool) :=
  obind (cube_each n (fun (x126 : Int) => cube_Meet_1 x126 a b)) fun (r128 : (Cube × Bool)) =>
  some (r128.1, r128.2)

def ref06_Meet.s0 (n : Nat) (k0 : (Int → Cube → Option (Cube × Bool))) (f : Int) (a_1 : Cube) (b_1 : Cube) (v4 : Cube) (c : Cube) : Option (Cube × Bool) :=
  bif decide (f < 24) then
    bif inRange f 24 then
    bif inRange f 24 then
    obind (some (ref05_Meet (List.getD a_1 (Int.toNat f) ((0, 0), 0, 0)) (List.getD b_1 (Int.toNat f) ((0, 0), 0, 0)))) fun (r130 : (Tern × Bool)) =>
    bif !r130.2 then
      some (([((0, 0), 0, 0), ((0, 0), 0, 0), ((0, 0), 0, 0), ((0, 0), 0, 0), ((0, 0), 0, 0), ((0, 0), 0, 0), ((0, 0), 0, 0), ((0, 0), 0, 0), ((0, 0), 0, 0), ((0, 0), 0, 0), ((0, 0), 0, 0), ((0, 0), 0, 0), ((0, 0), 0, 0), ((0, 0), 0, 0), ((0, 0), 0, 0), ((0, 0), 0, 0), ((0, 0), 0, 0), ((0, 0), 0, 0), ((0, 0), 0, 0), ((0, 0), 0, 0), ((0, 0), 0, 0), ((0, 0), 0, 0), ((0, 0), 0, 0), ((0, 0), 0, 0)] : Cube), false)
    else
    bif inRange f 24 then
    k0 (IntKind.wrap .i64 (f + 1)) (List.set c (Int.toNat f) r130.1)
    else none
    else none
    else none
  else
  some (c, true)

def ref06_Meet.l0 (n : Nat) (a_1 : Cube) (b_1 : Cube) (v4 : Cube) : Nat → Int → Cube → Option (Cube × Bool)
  | 0, _, _ => none
  | m + 1, f, c => ref06_Meet.s0 n (fun f' c' => ref06_Meet.l0 n a_1 b_1 v4 m f' c') f a_1 b_1 v4 c

def ref06_Meet.s (n : Nat) (k0 : (Int → Cube → Cube → Cube → Cube → Option (Cube × Bool))) (a : Cube) (b : Cube) : Option (Cube × Bool) :=
  k0 0 a b (List.replicate 24 ((0, 0), 0, 0)) ([((0, 0), 0, 0), ((0, 0), 0, 0), ((0, 0), 0, 0), ((0, 0), 0, 0), ((0, 0), 0, 0), ((0, 0), 0, 0), ((0, 0), 0, 0), ((0, 0), 0, 0), ((0, 0), 0, 0), ((0, 0), 0, 0), ((0, 0), 0, 0), ((0, 0), 0, 0), ((0, 0), 0, 0), ((0, 0), 0, 0), ((0, 0), 0, 0), ((0, 0), 0, 0), ((0, 0), 0, 0), ((0, 0), 0, 0), ((0, 0), 0, 0), ((0, 0), 0, 0), ((0, 0), 0, 0), ((0, 0), 0, 0), ((0, 0), 0, 0), ((0, 0), 0, 0)] : Cube)

def ref06_Meet (n : Nat) (a : Cube) (b : Cube) : Option (Cube × Bool) := ref06_Meet.s n (fun f a_1 b_1 v4 c => ref06_Meet.l0 n a_1 b_1 v4 n f c) a b

def cube_Has.s0 (n : Nat) (k0 : (Int → Option Bool)) (v7 : Cube) (v8 : Int) (h_1 : Header) : Option Bool :=
  bif decide (v8 < 24) then
    bif inRange v8 24 then
    bif inRange v8 24 then
    obind (some (tern_Has (List.getD v7 (Int.toNat v8) ((0, 0), 0, 0)) (List.getD h_1 (Int.toNat v8) (0, 0)))) fun (r132 : Bool) =>
    bif !r132 then
      some false
    else
    k0 (IntKind.wrap .i64 (v8 + 1))
    else none
    else none
  else
  some true

def cube_Has.l0 (n : Nat) (v7 : Cube) (h_1 : Header) : Nat → Int → Option Bool
  | 0, _ => none
  | m + 1, v8 => cube_Has.s0 n (fun v8' => cube_Has.l0 n v7 h_1 m v8') v7 v8 h_1

def cube_Has.s (n : Nat) (k0 : (Cube → Int → Header → Option Bool)) (c : Cube) (h : Header) : Option Bool :=
  k0 c 0 h

def cube_Has (n : Nat) (c : Cube) (h : Header) : Option Bool := cube_Has.s n (fun v7 v8 h_1 => cube_Has.l0 n v7 h_1 n v8) c h

def ref06_Has.s0 (n : Nat) (k0 : (Int → Option Bool)) (f : Int) (c_1 : Cube) (h_1 : Header) : Option Bool :=
  bif decide (f < 24) then
    bif inRange f 24 then
    bif inRange f 24 then
    obind (some (ref05_Has (List.getD c_1 (Int.toNat f) ((0, 0), 0, 0)) (List.getD h_1 (Int.toNat f) (0, 0)))) fun (r134 : Bool) =>
    bif !r134 then
      some false
    else
    k0 (IntKind.wrap .i64 (f + 1))
    else none
    else none
  else
  some true

def ref06_Has.l0 (n : Nat) (c_1 : Cube) (h_1 : Header) : Nat → Int → Option Bool
  | 0, _ => none
  | m + 1, f => ref06_Has.s0 n (fun f' => ref06_Has.l0 n c_1 h_1 m f') f c_1 h_1

def ref06_Has.s (n : Nat) (k0 : (Int → Cube → Header → Option Bool)) (c : Cube) (h : Header) : Option Bool :=
  k0 0 c h

def ref06_Has (n : Nat) (c : Cube) (h : Header) : Option Bool := ref06_Has.s n (fun f c_1 h_1 => ref06_Has.l0 n c_1 h_1 n f) c h

def cube_Within.s0 (n : Nat) (k0 : (Int → Option Bool)) (v7 : Cube) (v8 : Int) (b_1 : Cube) : Option Bool :=
  bif decide (v8 < 24) then
    bif inRange v8 24 then
    bif inRange v8 24 then
    obind (some (tern_Within (List.getD v7 (Int.toNat v8) ((0, 0), 0, 0)) (List.getD b_1 (Int.toNat v8) ((0, 0), 0, 0)))) fun (r136 : Bool) =>
    bif !r136 then
      some false
    else
    k0 (IntKind.wrap .i64 (v8 + 1))
    else none
    else none
  else
  some true

def cube_Within.l0 (n : Nat) (v7 : Cube) (b_1 : Cube) : Nat → Int → Option Bool
  | 0, _ => none
  | m + 1, v8 => cube_Within.s0 n (fun v8' => cube_Within.l0 n v7 b_1 m v8') v7 v8 b_1

def cube_Within.s (n : Nat) (k0 : (Cube → Int → Cube → Option Bool)) (a : Cube) (b : Cube) : Option Bool :=
  k0 a 0 b

def cube_Within (n : Nat) (a : Cube) (b : Cube) : Option Bool := cube_Within.s n (fun v7 v8 b_1 => cube_Within.l0 n v7 b_1 n v8) a b

def ref06_Within.s0 (n : Nat) (k0 : (Int → Option Bool)) (f : Int) (a_1 : Cube) (b_1 : Cube) : Option Bool :=
  bif decide (f < 24) then
    bif inRange f 24 then
    bif inRange f 24 then
    obind (some (ref05_Within (List.getD a_1 (Int.toNat f) ((0, 0), 0, 0)) (List.getD b_1 (Int.toNat f) ((0, 0), 0, 0)))) fun (r138 : Bool) =>
    bif !r138 then
      some false
    else
    k0 (IntKind.wrap .i64 (f + 1))
    else none
    else none
  else
  some true

def ref06_Within.l0 (n : Nat) (a_1 : Cube) (b_1 : Cube) : Nat → Int → Option Bool
  | 0, _ => none
  | m + 1, f => ref06_Within.s0 n (fun f' => ref06_Within.l0 n a_1 b_1 m f') f a_1 b_1

def ref06_Within.s (n : Nat) (k0 : (Int → Cube → Cube → Option Bool)) (a : Cube) (b : Cube) : Option Bool :=
  k0 0 a b

def ref06_Within (n : Nat) (a : Cube) (b : Cube) : Option Bool := ref06_Within.s n (fun f a_1 b_1 => ref06_Within.l0 n a_1 b_1 n f) a b

def cube_Pick.s0 (n : Nat) (k0 : (Int → Header → Option Header)) (v6 : Cube) (v7 : Int) (v2 : Header) (h : Header) : Option Header :=
  bif decide (v7 < 24) then
    bif inRange v7 24 then
    obind (some (tern_Clean (List.getD v6 (Int.toNat v7) ((0, 0), 0, 0)))) fun (r140 : Tern) =>
    bif inRange v7 24 then
    k0 (IntKind.wrap .i64 (v7 + 1)) (List.set h (Int.toNat v7) r140.1)
    else none
    else none
  else
  some h

def cube_Pick.l0 (n : Nat) (v6 : Cube) (v2 : Header) : Nat → Int → Header → Option Header
  | 0, _, _ => none
  | m + 1, v7, h => cube_Pick.s0 n (fun v7' h' => cube_Pick.l0 n v6 v2 m v7' h') v6 v7 v2 h

def cube_Pick.s (n : Nat) (k0 : (Cube → Int → Header → Header → Option Header)) (c : Cube) : Option Header :=
  k0 c 0 (List.replicate 24 (0, 0)) (List.replicate 24 (0, 0))

def cube_Pick (n : Nat) (c : Cube) : Option Header := cube_Pick.s n (fun v6 v7 v2 h => cube_Pick.l0 n v6 v2 n v7 h) c

def ref06_Pick.s0 (n : Nat) (k0 : (Int → Header → Option Header)) (f : Int) (c_1 : Cube) (v2 : Header) (h : Header) : Option Header :=
  bif decide (f < 24) then
    bif inRange f 24 then
    obind (some (ref05_Clean (List.getD c_1 (Int.toNat f) ((0, 0), 0, 0)))) fun (r142 : Tern) =>
    bif inRange f 24 then
    k0 (IntKind.wrap .i64 (f + 1)) (List.set h (Int.toNat f) r142.1)
    else none
    else none
  else
  some h

def ref06_Pick.l0 (n : Nat) (c_1 : Cube) (v2 : Header) : Nat → Int → Header → Option Header
  | 0, _, _ => none
  | m + 1, f, h => ref06_Pick.s0 n (fun f' h' => ref06_Pick.l0 n c_1 v2 m f' h') f c_1 v2 h

def ref06_Pick.s (n : Nat) (k0 : (Int → Cube → Header → Header → Option Header)) (c : Cube) : Option Header :=
  k0 0 c (List.replicate 24 (0, 0)) ([(0, 0), (0, 0), (0, 0), (0, 0), (0, 0), (0, 0), (0, 0), (0, 0), (0, 0), (0, 0), (0, 0), (0, 0), (0, 0), (0, 0), (0, 0), (0, 0), (0, 0), (0, 0), (0, 0), (0, 0), (0, 0), (0, 0), (0, 0), (0, 0)] : Header)

def ref06_Pick (n : Nat) (c : Cube) : Option Header := ref06_Pick.s n (fun f c_1 v2 h => ref06_Pick.l0 n c_1 v2 n f h) c

def cube_Size.s0 (n : Nat) (k0 : (Int → Int → Option Int)) (n3 : Int) (v6 : Cube) (v7 : Int) : Option Int :=
  bif decide (v7 < 24) then
    bif inRange v7 24 then
    obind (some (wide_Many (List.getD v6 (Int.toNat v7) ((0, 0), 0, 0)).2)) fun (r144 : Int) =>
    k0 (IntKind.wrap .i64 (n3 + r144)) (IntKind.wrap .i64 (v7 + 1))
    else none
  else
  some n3

def cube_Size.l0 (n : Nat) (v6 : Cube) : Nat → Int → Int → Option Int
  | 0, _, _ => none
  | m + 1, n3, v7 => cube_Size.s0 n (fun n3' v7' => cube_Size.l0 n v6 m n3' v7') n3 v6 v7

def cube_Size.s (n : Nat) (k0 : (Int → Cube → Int → Option Int)) (c : Cube) : Option Int :=
  k0 0 c 0

def cube_Size (n : Nat) (c : Cube) : Option Int := cube_Size.s n (fun n3 v6 v7 => cube_Size.l0 n v6 n n3 v7) c

def ref02_Many.s0 (n : Nat) (k0 : (Int → Int → Option Int)) (n3 : Int) (i : Int) (a_1 : Wide) : Option Int :=
  bif decide (i < 128) then
    obind (ref02_Has a_1 i) fun (r146 : Bool) =>
    bif r146 then
      k0 (IntKind.wrap .i64 (n3 + 1)) (IntKind.wrap .i64 (i + 1))
    else
    k0 n3 (IntKind.wrap .i64 (i + 1))
  else
  some n3

def ref02_Many.l0 (n : Nat) (a_1 : Wide) : Nat → Int → Int → Option Int
  | 0, _, _ => none
  | m + 1, n3, i => ref02_Many.s0 n (fun n3' i' => ref02_Many.l0 n a_1 m n3' i') n3 i a_1

def ref02_Many.s (n : Nat) (k0 : (Int → Int → Wide → Option Int)) (a : Wide) : Option Int :=
  k0 0 0 a

def ref02_Many (n : Nat) (a : Wide) : Option Int := ref02_Many.s n (fun n3 i a_1 => ref02_Many.l0 n a_1 n n3 i) a

def ref06_Size.s0 (n : Nat) (k0 : (Int → Int → Option Int)) (n3 : Int) (f : Int) (c_1 : Cube) : Option Int :=
  bif decide (f < 24) then
    bif inRange f 24 then
    obind (ref02_Many n (List.getD c_1 (Int.toNat f) ((0, 0), 0, 0)).2) fun (r147 : Int) =>
    k0 (IntKind.wrap .i64 (n3 + r147)) (IntKind.wrap .i64 (f + 1))
    else none
  else
  some n3

def ref06_Size.l0 (n : Nat) (c_1 : Cube) : Nat → Int → Int → Option Int
  | 0, _, _ => none
  | m + 1, n3, f => ref06_Size.s0 n (fun n3' f' => ref06_Size.l0 n c_1 m n3' f') n3 f c_1

def ref06_Size.s (n : Nat) (k0 : (Int → Int → Cube → Option Int)) (c : Cube) : Option Int :=
  k0 0 0 c

def ref06_Size (n : Nat) (c : Cube) : Option Int := ref06_Size.s n (fun n3 f c_1 => ref06_Size.l0 n c_1 n n3 f) c

def cube_Clean_1 (i : Int) (c0 : Cube) : Option (Tern × Bool) :=
  bif inRange i 24 then
  obind (some (tern_Clean (List.getD c0 (Int.toNat i) ((0, 0), 0, 0)))) fun (r149 : Tern) =>
  some (r149, true)
  else none

def cube_Clean (n : Nat) (c : Cube) : Option Cube :=
  obind (cube_each n (fun (x150 : Int) => cube_Clean_1 x150 c)) fun (r151 : (Cube × Bool)) =>
  some r151.1

def ref06_Clean.s0 (n : Nat) (k0 : (Int → Cube → Option Cube)) (f : Int) (c_1 : Cube) (v2 : Cube) : Option Cube :=
  bif decide (f < 24) then
    bif inRange f 24 then
    obind (some (ref05_Clean (List.getD c_1 (Int.toNat f) ((0, 0), 0, 0)))) fun (r153 : Tern) =>
    bif inRange f 24 then
    k0 (IntKind.wrap .i64 (f + 1)) (List.set c_1 (Int.toNat f) r153)
    else none
    else none
  else
  some c_1

def ref06_Clean.l0 (n : Nat) (v2 : Cube) : Nat → Int → Cube → Option Cube
  | 0, _, _ => none
  | m + 1, f, c_1 => ref06_Clean.s0 n (fun f' c_1' => ref06_Clean.l0 n v2 m f' c_1') f c_1 v2

def ref06_Clean.s (n : Nat) (k0 : (Int → Cube → Cube → Option Cube)) (c : Cube) : Option Cube :=
  k0 0 c (List.replicate 24 ((0, 0), 0, 0))

def ref06_Clean (n : Nat) (c : Cube) : Option Cube := ref06_Clean.s n (fun f c_1 v2 => ref06_Clean.l0 n v2 n f c_1) c

def wide_low (n0 : Int) : Option Int :=
  bif decide (n0 ≥ 64) then
    some 18446744073709551615
  else
  bif !(decide ((maxI n0 0) < 0)) then
  some (IntKind.wrap .u64 ((shlI .u64 1 (maxI n0 0)) - 1))
  else none

def wide_Low (n0 : Int) : Option Wide :=
  let y0 : Int := minI (maxI n0 0) 128
  obind (wide_low (IntKind.wrap .i64 (y0 - 64))) fun (r155 : Int) =>
  obind (wide_low y0) fun (r156 : Int) =>
  some (r155, r156)

def cube_One_1 (i : Int) (c0 : Header) : Option (Tern × Bool) :=
  bif inRange i 24 then
  obind (wide_Low 128) fun (r157 : Wide) =>
  some ((List.getD c0 (Int.toNat i) (0, 0), r157), true)
  else none

def cube_One (n : Nat) (h : Header) : Option Cube :=
  obind (cube_each n (fun (x158 : Int) => cube_One_1 x158 h)) fun (r159 : (Cube × Bool)) =>
  some r159.1

def ref02_Low.s0 (n : Nat) (k0 : (Int → Wide → Option Wide)) (n0_1 : Int) (i : Int) (v2 : Wide) (out : Wide) : Option Wide :=
  bif ((decide (i < n0_1)) == true) then
    bif decide (i < 128) then
      obind (ref02_Bit i) fun (r161 : Wide) =>
      obind (some (ref02_Or out r161)) fun (r162 : Wide) =>
      k0 (IntKind.wrap .i64 (i + 1)) r162
    else
    some out
  else
  some out

def ref02_Low.l0 (n : Nat) (n0_1 : Int) (v2 : Wide) : Nat → Int → Wide → Option Wide
  | 0, _, _ => none
  | m + 1, i, out => ref02_Low.s0 n (fun i' out' => ref02_Low.l0 n n0_1 v2 m i' out') n0_1 i v2 out

def ref02_Low.s (n : Nat) (k0 : (Int → Int → Wide → Wide → Option Wide)) (n0 : Int) : Option Wide :=
  k0 n0 0 (0, 0) (0, 0)

def ref02_Low (n : Nat) (n0 : Int) : Option Wide := ref02_Low.s n (fun n0_1 i v2 out => ref02_Low.l0 n n0_1 v2 n i out) n0

def ref06_One.s0 (n : Nat) (k0 : (Int → Cube → Option Cube)) (f : Int) (h_1 : Header) (v2 : Cube) (c : Cube) : Option Cube :=
  bif decide (f < 24) then
    bif inRange f 24 then
    obind (ref02_Low n 128) fun (r163 : Wide) =>
    bif inRange f 24 then
    k0 (IntKind.wrap .i64 (f + 1)) (List.set c (Int.toNat f) (List.getD h_1 (Int.toNat f) (0, 0), r163))
    else none
    else none
  else
  some c

def ref06_One.l0 (n : Nat) (h_1 : Header) (v2 : Cube) : Nat → Int → Cube → Option Cube
  | 0, _, _ => none
  | m + 1, f, c => ref06_One.s0 n (fun f' c' => ref06_One.l0 n h_1 v2 m f' c') f h_1 v2 c

def ref06_One.s (n : Nat) (k0 : (Int → Header → Cube → Cube → Option Cube)) (h : Header) : Option Cube :=
  k0 0 h (List.replicate 24 ((0, 0), 0, 0)) ([((0, 0), 0, 0), ((0, 0), 0, 0), ((0, 0), 0, 0), ((0, 0), 0, 0), ((0, 0), 0, 0), ((0, 0), 0, 0), ((0, 0), 0, 0), ((0, 0), 0, 0), ((0, 0), 0, 0), ((0, 0), 0, 0), ((0, 0), 0, 0), ((0, 0), 0, 0), ((0, 0), 0, 0), ((0, 0), 0, 0), ((0, 0), 0, 0), ((0, 0), 0, 0), ((0, 0), 0, 0), ((0, 0), 0, 0), ((0, 0), 0, 0), ((0, 0), 0, 0), ((0, 0), 0, 0), ((0, 0), 0, 0), ((0, 0), 0, 0), ((0, 0), 0, 0)] : Cube)

def ref06_One (n : Nat) (h : Header) : Option Cube := ref06_One.s n (fun f h_1 v2 c => ref06_One.l0 n h_1 v2 n f c) h

def cube_All : Cube :=
  ([((0, 0), 0, 0), ((0, 0), 0, 0), ((0, 0), 0, 0), ((0, 0), 0, 0), ((0, 0), 0, 0), ((0, 0), 0, 0), ((0, 0), 0, 0), ((0, 0), 0, 0), ((0, 0), 0, 0), ((0, 0), 0, 0), ((0, 0), 0, 0), ((0, 0), 0, 0), ((0, 0), 0, 0), ((0, 0), 0, 0), ((0, 0), 0, 0), ((0, 0), 0, 0), ((0, 0), 0, 0), ((0, 0), 0, 0), ((0, 0), 0, 0), ((0, 0), 0, 0), ((0, 0), 0, 0), ((0, 0), 0, 0), ((0, 0), 0, 0), ((0, 0), 0, 0)] : Cube)

def ref06_All : Cube :=
  ([((0, 0), 0, 0), ((0, 0), 0, 0), ((0, 0), 0, 0), ((0, 0), 0, 0), ((0, 0), 0, 0), ((0, 0), 0, 0), ((0, 0), 0, 0), ((0, 0), 0, 0), ((0, 0), 0, 0), ((0, 0), 0, 0), ((0, 0), 0, 0), ((0, 0), 0, 0), ((0, 0), 0, 0), ((0, 0), 0, 0), ((0, 0), 0, 0), ((0, 0), 0, 0), ((0, 0), 0, 0), ((0, 0), 0, 0), ((0, 0), 0, 0), ((0, 0), 0, 0), ((0, 0), 0, 0), ((0, 0), 0, 0), ((0, 0), 0, 0), ((0, 0), 0, 0)] : Cube)

def law06_awake (n : Nat) : Option Bool :=
  obind (cube_One n ([(0, 5), (0, 0), (0, 0), (0, 0), (0, 0), (0, 0), (0, 0), (0, 0), (0, 0), (0, 0), (0, 0), (0, 0), (0, 0), (0, 0), (0, 0), (0, 0), (0, 0), (0, 0), (0, 0), (0, 0), (0, 0), (0, 0), (0, 0), (0, 0)] : Header)) fun (r167 : Cube) =>
  obind (cube_One n ([(0, 0), (0, 0), (0, 0), (0, 0), (0, 0), (0, 0), (0, 0), (0, 0), (0, 0), (0, 0), (0, 0), (0, 0), (0, 0), (0, 0), (0, 0), (0, 0), (0, 0), (0, 0), (0, 0), (0, 0), (0, 0), (0, 0), (0, 0), (0, 0)] : Header)) fun (r168 : Cube) =>
  obind (cube_Meet n r167 r168) fun (r169 : (Cube × Bool)) =>
  bif ((!r169.2) == true) then
    obind (cube_Has n ([((0, 5), 0, 4), ((0, 0), 0, 0), ((0, 0), 0, 0), ((0, 0), 0, 0), ((0, 0), 0, 0), ((0, 0), 0, 0), ((0, 0), 0, 0), ((0, 0), 0, 0), ((0, 0), 0, 0), ((0, 0), 0, 0), ((0, 0), 0, 0), ((0, 0), 0, 0), ((0, 0), 0, 0), ((0, 0), 0, 0), ((0, 0), 0, 0), ((0, 0), 0, 0), ((0, 0), 0, 0), ((0, 0), 0, 0), ((0, 0), 0, 0), ((0, 0), 0, 0), ((0, 0), 0, 0), ((0, 0), 0, 0), ((0, 0), 0, 0), ((0, 0), 0, 0)] : Cube) ([(0, 5), (0, 0), (0, 0), (0, 0), (0, 0), (0, 0), (0, 0), (0, 0), (0, 0), (0, 0), (0, 0), (0, 0), (0, 0), (0, 0), (0, 0), (0, 0), (0, 0), (0, 0), (0, 0), (0, 0), (0, 0), (0, 0), (0, 0), (0, 0)] : Header)) fun (r170 : Bool) =>
    bif (r170 == true) then
      obind (cube_One n ([(0, 5), (0, 0), (0, 0), (0, 0), (0, 0), (0, 0), (0, 0), (0, 0), (0, 0), (0, 0), (0, 0), (0, 0), (0, 0), (0, 0), (0, 0), (0, 0), (0, 0), (0, 0), (0, 0), (0, 0), (0, 0), (0, 0), (0, 0), (0, 0)] : Header)) fun (r171 : Cube) =>
      obind (cube_Within n r171 ([((0, 5), 0, 4), ((0, 0), 0, 0), ((0, 0), 0, 0), ((0, 0), 0, 0), ((0, 0), 0, 0), ((0, 0), 0, 0), ((0, 0), 0, 0), ((0, 0), 0, 0), ((0, 0), 0, 0), ((0, 0), 0, 0), ((0, 0), 0, 0), ((0, 0), 0, 0), ((0, 0), 0, 0), ((0, 0), 0, 0), ((0, 0), 0, 0), ((0, 0), 0, 0), ((0, 0), 0, 0), ((0, 0), 0, 0), ((0, 0), 0, 0), ((0, 0), 0, 0), ((0, 0), 0, 0), ((0, 0), 0, 0), ((0, 0), 0, 0), ((0, 0), 0, 0)] : Cube)) fun (r172 : Bool) =>
      bif (r172 == true) then
        obind (cube_Pick n ([((0, 5), 0, 4), ((0, 0), 0, 0), ((0, 0), 0, 0), ((0, 0), 0, 0), ((0, 0), 0, 0), ((0, 0), 0, 0), ((0, 0), 0, 0), ((0, 0), 0, 0), ((0, 0), 0, 0), ((0, 0), 0, 0), ((0, 0), 0, 0), ((0, 0), 0, 0), ((0, 0), 0, 0), ((0, 0), 0, 0), ((0, 0), 0, 0), ((0, 0), 0, 0), ((0, 0), 0, 0), ((0, 0), 0, 0), ((0, 0), 0, 0), ((0, 0), 0, 0), ((0, 0), 0, 0), ((0, 0), 0, 0), ((0, 0), 0, 0), ((0, 0), 0, 0)] : Cube)) fun (r173 : Header) =>
        bif (((List.getD r173 0 (0, 0)).2 == 4) == true) then
          obind (cube_Size n ([((0, 5), 0, 4), ((0, 0), 0, 0), ((0, 0), 0, 0), ((0, 0), 0, 0), ((0, 0), 0, 0), ((0, 0), 0, 0), ((0, 0), 0, 0), ((0, 0), 0, 0), ((0, 0), 0, 0), ((0, 0), 0, 0), ((0, 0), 0, 0), ((0, 0), 0, 0), ((0, 0), 0, 0), ((0, 0), 0, 0), ((0, 0), 0, 0), ((0, 0), 0, 0), ((0, 0), 0, 0), ((0, 0), 0, 0), ((0, 0), 0, 0), ((0, 0), 0, 0), ((0, 0), 0, 0), ((0, 0), 0, 0), ((0, 0), 0, 0), ((0, 0), 0, 0)] : Cube)) fun (r174 : Int) =>
          bif ((r174 == 1) == true) then
            obind (cube_Clean n ([((0, 5), 0, 4), ((0, 0), 0, 0), ((0, 0), 0, 0), ((0, 0), 0, 0), ((0, 0), 0, 0), ((0, 0), 0, 0), ((0, 0), 0, 0), ((0, 0), 0, 0), ((0, 0), 0, 0), ((0, 0), 0, 0), ((0, 0), 0, 0), ((0, 0), 0, 0), ((0, 0), 0, 0), ((0, 0), 0, 0), ((0, 0), 0, 0), ((0, 0), 0, 0), ((0, 0), 0, 0), ((0, 0), 0, 0), ((0, 0), 0, 0), ((0, 0), 0, 0), ((0, 0), 0, 0), ((0, 0), 0, 0), ((0, 0), 0, 0), ((0, 0), 0, 0)] : Cube)) fun (r175 : Cube) =>
            bif ((!(beqT TCube r175 ([((0, 5), 0, 4), ((0, 0), 0, 0), ((0, 0), 0, 0), ((0, 0), 0, 0), ((0, 0), 0, 0), ((0, 0), 0, 0), ((0, 0), 0, 0), ((0, 0), 0, 0), ((0, 0), 0, 0), ((0, 0), 0, 0), ((0, 0), 0, 0), ((0, 0), 0, 0), ((0, 0), 0, 0), ((0, 0), 0, 0), ((0, 0), 0, 0), ((0, 0), 0, 0), ((0, 0), 0, 0), ((0, 0), 0, 0), ((0, 0), 0, 0), ((0, 0), 0, 0), ((0, 0), 0, 0), ((0, 0), 0, 0), ((0, 0), 0, 0), ((0, 0), 0, 0)] : Cube))) == true) then
              obind (some cube_All) fun (r176 : Cube) =>
              some (beqT TCube r176 ([((0, 0), 0, 0), ((0, 0), 0, 0), ((0, 0), 0, 0), ((0, 0), 0, 0), ((0, 0), 0, 0), ((0, 0), 0, 0), ((0, 0), 0, 0), ((0, 0), 0, 0), ((0, 0), 0, 0), ((0, 0), 0, 0), ((0, 0), 0, 0), ((0, 0), 0, 0), ((0, 0), 0, 0), ((0, 0), 0, 0), ((0, 0), 0, 0), ((0, 0), 0, 0), ((0, 0), 0, 0), ((0, 0), 0, 0), ((0, 0), 0, 0), ((0, 0), 0, 0), ((0, 0), 0, 0), ((0, 0), 0, 0), ((0, 0), 0, 0), ((0, 0), 0, 0)] : Cube))
            else
            some false
          else
          some false
        else
        some false
      else
      some false
    else
    some false
  else
  some false

def law06_awake.τs : List Ty := []

def law06_CubeTells (n : Nat) (a : Cube) (b : Cube) (h : Header) : Option Bool :=
  obind (cube_Meet n a b) fun (r129 : (Cube × Bool)) =>
  obind (ref06_Meet n a b) fun (r131 : (Cube × Bool)) =>
  bif ((beqT TCube r129.1 r131.1) == true) then
    bif ((r129.2 == r131.2) == true) then
      obind (cube_Has n a h) fun (r133 : Bool) =>
      obind (ref06_Has n a h) fun (r135 : Bool) =>
      bif ((r133 == r135) == true) then
        obind (cube_Within n a b) fun (r137 : Bool) =>
        obind (ref06_Within n a b) fun (r139 : Bool) =>
        bif ((r137 == r139) == true) then
          obind (cube_Pick n a) fun (r141 : Header) =>
          obind (ref06_Pick n a) fun (r143 : Header) =>
          bif ((beqT THeader r141 r143) == true) then
            obind (cube_Size n a) fun (r145 : Int) =>
            obind (ref06_Size n a) fun (r148 : Int) =>
            bif ((r145 == r148) == true) then
              obind (cube_Clean n a) fun (r152 : Cube) =>
              obind (ref06_Clean n a) fun (r154 : Cube) =>
              bif ((beqT TCube r152 r154) == true) then
                obind (cube_One n h) fun (r160 : Cube) =>
                obind (ref06_One n h) fun (r164 : Cube) =>
                bif ((beqT TCube r160 r164) == true) then
                  obind (some cube_All) fun (r165 : Cube) =>
                  obind (some ref06_All) fun (r166 : Cube) =>
                  bif ((beqT TCube r165 r166) == true) then
                    obind (law06_awake n) fun (r177 : Bool) =>
                    some r177
                  else
                  some false
                else
                some false
              else
              some false
            else
            some false
          else
          some false
        else
        some false
      else
      some false
    else
    some false
  else
  some false

def law06_CubeTells.τs : List Ty := [TCube, TCube, THeader]

def law06_CubeMeet (n : Nat) (a : Cube) (b : Cube) (h : Header) : Option Bool :=
  obind (cube_Meet n a b) fun (r178 : (Cube × Bool)) =>
  obind (cube_Has n a h) fun (r179 : Bool) =>
  bif (r179 == true) then
    obind (cube_Has n b h) fun (r180 : Bool) =>
    bif (r178.2 == true) then
      obind (cube_Has n r178.1 h) fun (r181 : Bool) =>
      bif ((r180 == r181) == true) then
        obind (law06_awake n) fun (r182 : Bool) =>
        some r182
      else
      some false
    else
    bif ((r180 == false) == true) then
      obind (law06_awake n) fun (r183 : Bool) =>
      some r183
    else
    some false
  else
  bif (r178.2 == true) then
    obind (cube_Has n r178.1 h) fun (r184 : Bool) =>
    bif ((false == r184) == true) then
      obind (law06_awake n) fun (r185 : Bool) =>
      some r185
    else
    some false
  else
  bif ((false == false) == true) then
    obind (law06_awake n) fun (r186 : Bool) =>
    some r186
  else
  some false

def law06_CubeMeet.τs : List Ty := [TCube, TCube, THeader]

def law06_CubePick.s0 (n : Nat) (k0 : (Int → Header → Option Bool)) (v11 : Cube) (v12 : Int) (c_1 : Cube) (h_1 : Header) (g_1 : Header) (x : Header) : Option Bool :=
  bif decide (v12 < 24) then
    bif inRange v12 24 then
    let y0 : Tern := List.getD v11 (Int.toNat v12) ((0, 0), 0, 0)
    obind (some (wide_And y0.1 y0.2)) fun (r187 : Wide) =>
    bif inRange v12 24 then
    obind (some (wide_Less (List.getD h_1 (Int.toNat v12) (0, 0)) y0.2)) fun (r188 : Wide) =>
    obind (some (wide_Or r187 r188)) fun (r189 : Wide) =>
    bif inRange v12 24 then
    k0 (IntKind.wrap .i64 (v12 + 1)) (List.set x (Int.toNat v12) r189)
    else none
    else none
    else none
  else
  obind (cube_Pick n c_1) fun (r190 : Header) =>
  obind (cube_Has n c_1 r190) fun (r191 : Bool) =>
  bif (r191 == true) then
    obind (cube_Has n c_1 x) fun (r192 : Bool) =>
    bif (r192 == true) then
      obind (cube_One n h_1) fun (r193 : Cube) =>
      obind (cube_Has n r193 g_1) fun (r194 : Bool) =>
      bif ((r194 == (beqT THeader h_1 g_1)) == true) then
        obind (some cube_All) fun (r195 : Cube) =>
        obind (cube_Has n r195 g_1) fun (r196 : Bool) =>
        bif (r196 == true) then
          obind (law06_awake n) fun (r197 : Bool) =>
          some r197
        else
        some false
      else
      some false
    else
    some false
  else
  some false

def law06_CubePick.l0 (n : Nat) (v11 : Cube) (c_1 : Cube) (h_1 : Header) (g_1 : Header) : Nat → Int → Header → Option Bool
  | 0, _, _ => none
  | m + 1, v12, x => law06_CubePick.s0 n (fun v12' x' => law06_CubePick.l0 n v11 c_1 h_1 g_1 m v12' x') v11 v12 c_1 h_1 g_1 x

def law06_CubePick.s (n : Nat) (k0 : (Cube → Int → Cube → Header → Header → Header → Option Bool)) (c : Cube) (h : Header) (g : Header) : Option Bool :=
  k0 c 0 c h g h

def law06_CubePick (n : Nat) (c : Cube) (h : Header) (g : Header) : Option Bool := law06_CubePick.s n (fun v11 v12 c_1 h_1 g_1 x => law06_CubePick.l0 n v11 c_1 h_1 g_1 n v12 x) c h g

def law06_CubePick.τs : List Ty := [TCube, THeader, THeader]

def law06_CubeWithin (n : Nat) (a : Cube) (b : Cube) (h : Header) : Option Bool :=
  obind (cube_Meet n a b) fun (r198 : (Cube × Bool)) =>
  obind (cube_Within n a b) fun (r199 : Bool) =>
  bif !r199 then
    obind (law06_awake n) fun (r200 : Bool) =>
    some r200
  else
  bif (r198.2 == true) then
    obind (cube_Clean n a) fun (r201 : Cube) =>
    bif ((beqT TCube r198.1 r201) == true) then
      obind (cube_Has n a h) fun (r202 : Bool) =>
      bif ((!r202) == false) then
        obind (cube_Has n b h) fun (r203 : Bool) =>
        bif (r203 == true) then
          obind (cube_Size n b) fun (r204 : Int) =>
          obind (cube_Size n a) fun (r205 : Int) =>
          bif ((decide (r204 ≤ r205)) == true) then
            obind (law06_awake n) fun (r206 : Bool) =>
            some r206
          else
          some false
        else
        some false
      else
      obind (cube_Size n b) fun (r207 : Int) =>
      obind (cube_Size n a) fun (r208 : Int) =>
      bif ((decide (r207 ≤ r208)) == true) then
        obind (law06_awake n) fun (r209 : Bool) =>
        some r209
      else
      some false
    else
    some false
  else
  some false

def law06_CubeWithin.τs : List Ty := [TCube, TCube, THeader]

def carve_Parts_1.s1 (n : Nat) (k1 : (Int → Cube → Option (List Cube))) (k0 : (Cube → Int → Cube → Option (List Cube))) (f : Int) (v27_1 : Cube) (v28_1 : Int) (v40 : (List Int)) (v41 : Int) (v42 : Int) (left_1 : Cube) (t : Tern) : Option (List Cube) :=
  bif decide (v42 < v41) then
    bif inRange v42 (List.length v40) then
    let y0 : Int := List.getD v40 (Int.toNat v42) 0
    obind (wide_Has t.1 y0) fun (r214 : Bool) =>
    bif inRange f 24 then
    obind (tern_Fix (List.getD left_1 (Int.toNat f) ((0, 0), 0, 0)) y0 (!r214)) fun (r215 : Tern) =>
    bif inRange f 24 then
    obind (
      bif inRange f 24 then
      obind (tern_Fix (List.getD left_1 (Int.toNat f) ((0, 0), 0, 0)) y0 r214) fun (r216 : Tern) =>
      bif inRange f 24 then
      k1 (IntKind.wrap .i64 (v42 + 1)) (List.set left_1 (Int.toNat f) r216)
      else none
      else none
    ) fun (z2 : (List Cube)) => some (List.set left_1 (Int.toNat f) r215 :: z2)
    else none
    else none
    else none
  else
  k0 v27_1 (IntKind.wrap .i64 (v28_1 + 1)) left_1

def carve_Parts_1.l1 (n : Nat) (f : Int) (v27_1 : Cube) (v28_1 : Int) (v40 : (List Int)) (v41 : Int) (t : Tern) (k0 : (Cube → Int → Cube → Option (List Cube))) : Nat → Int → Cube → Option (List Cube)
  | 0, _, _ => none
  | m + 1, v42, left_1 => carve_Parts_1.s1 n (fun v42' left_1' => carve_Parts_1.l1 n f v27_1 v28_1 v40 v41 t k0 m v42' left_1') k0 f v27_1 v28_1 v40 v41 v42 left_1 t

def carve_Parts_1.s0 (n : Nat) (k0 : (Int → Cube → Option (List Cube))) (k1 : (Int → Cube → Int → (List Int) → Int → Int → Cube → Tern → Option (List Cube))) (v27 : Cube) (v28 : Int) (left : Cube) : Option (List Cube) :=
  bif decide (v28 < 24) then
    bif inRange v28 24 then
    bif inRange v28 24 then
    let y0 : Tern := List.getD v27 (Int.toNat v28) ((0, 0), 0, 0)
    obind (tern_Bits n (List.getD left (Int.toNat v28) ((0, 0), 0, 0)) y0) fun (r213 : (List Int)) =>
    bif (((List.length r213 : Nat) : Int) == 0) then
      k0 (IntKind.wrap .i64 (v28 + 1)) left
    else
    k1 v28 v27 v28 r213 ((List.length r213 : Nat) : Int) 0 left y0
    else none
    else none
  else
  some []

def carve_Parts_1.l0 (n : Nat) (v27 : Cube) : Nat → Int → Cube → Option (List Cube)
  | 0, _, _ => none
  | m + 1, v28, left => carve_Parts_1.s0 n (fun v28' left' => carve_Parts_1.l0 n v27 m v28' left') (fun f' v27_1' v28_1' v40' v41' v42' left_1' t' => carve_Parts_1.l1 n f' v27_1' v28_1' v40' v41' t' (fun v27'' v28'' left'' => carve_Parts_1.l0 n v27'' m v28'' left'') n v42' left_1') v27 v28 left

def carve_Parts_1.s (n : Nat) (k0 : (Cube → Int → Cube → Option (List Cube))) (c0 : Cube) (c1 : Cube) : Option (List Cube) :=
  obind (cube_Clean n c0) fun (r211 : Cube) =>
  obind (cube_Meet n c0 c1) fun (r212 : (Cube × Bool)) =>
  bif !r212.2 then
    obind (
      some []
    ) fun (z1 : (List Cube)) => some (r211 :: z1)
  else
  k0 c1 0 r211

def carve_Parts_1 (n : Nat) (c0 : Cube) (c1 : Cube) : Option (List Cube) := carve_Parts_1.s n (fun v27 v28 left => carve_Parts_1.l0 n v27 n v28 left) c0 c1

def carve_Parts (n : Nat) (a : Cube) (b : Cube) : Option (List Cube) :=
  obind (carve_Parts_1 n a b) fun (r217 : (List Cube)) =>
  some r217

def slices_AppendSeq_Cube_nil.z0 (n : Nat) (s : (List Cube)) : Option (List Cube) :=
  some s

def slices_AppendSeq_Cube_nil.s0 (n : Nat) (k0 : ((List Cube) → Option (List Cube))) (s : (List Cube)) (x : Cube) : Option (List Cube) :=
  bif decide ((List.length s + List.length ([x] : (List Cube))) * 768 ≤ 140737488355328) then
  k0 (s ++ ([x] : (List Cube)))
  else none

def slices_AppendSeq_Cube_nil.l0 (n : Nat) : (List Cube) → (List Cube) → Option (List Cube)
  | [], s => slices_AppendSeq_Cube_nil.z0 n s
  | x :: xs, s => slices_AppendSeq_Cube_nil.s0 n (fun s' => slices_AppendSeq_Cube_nil.l0 n xs s') s x

def slices_AppendSeq_Cube_nil.s (n : Nat) (k0 : ((List Cube) → (List Cube) → Option (List Cube))) (seq : (List Cube)) : Option (List Cube) :=
  k0 seq ([] : (List Cube))

def slices_AppendSeq_Cube_nil (n : Nat) (seq : (List Cube)) : Option (List Cube) := slices_AppendSeq_Cube_nil.s n (fun xs s => slices_AppendSeq_Cube_nil.l0 n xs s) seq

def slices_Collect_Cube (n : Nat) (seq : (List Cube)) : Option (List Cube) :=
  obind (slices_AppendSeq_Cube_nil n seq) fun (r219 : (List Cube)) =>
  some r219

def carve_List (n : Nat) (a : Cube) (b : Cube) : Option (List Cube) :=
  obind (carve_Parts n a b) fun (r218 : (List Cube)) =>
  obind (slices_Collect_Cube n r218) fun (r220 : (List Cube)) =>
  some r220

def carve_Many.z0 (n : Nat) (n5 : Int) : Option Int :=
  some n5

def carve_Many.s0 (n : Nat) (k0 : (Int → Option Int)) (n5 : Int) (x : Cube) : Option Int :=
  k0 (IntKind.wrap .i64 (n5 + 1))

def carve_Many.l0 (n : Nat) : (List Cube) → Int → Option Int
  | [], n5 => carve_Many.z0 n n5
  | x :: xs, n5 => carve_Many.s0 n (fun n5' => carve_Many.l0 n xs n5') n5 x

def carve_Many.s (n : Nat) (k0 : ((List Cube) → Int → Option Int)) (a : Cube) (b : Cube) : Option Int :=
  obind (carve_Parts n a b) fun (r223 : (List Cube)) =>
  k0 r223 0

def carve_Many (n : Nat) (a : Cube) (b : Cube) : Option Int := carve_Many.s n (fun xs n5 => carve_Many.l0 n xs n5) a b

def law07_awake (n : Nat) : Option Bool :=
  obind (some cube_All) fun (r210 : Cube) =>
  obind (carve_List n r210 ([((0, 1), 0, 3), ((0, 0), 0, 0), ((0, 0), 0, 0), ((0, 0), 0, 0), ((0, 0), 0, 0), ((0, 0), 0, 0), ((0, 0), 0, 0), ((0, 0), 0, 0), ((0, 0), 0, 0), ((0, 0), 0, 0), ((0, 0), 0, 0), ((0, 0), 0, 0), ((0, 0), 0, 0), ((0, 0), 0, 0), ((0, 0), 0, 0), ((0, 0), 0, 0), ((0, 0), 0, 0), ((0, 0), 0, 0), ((0, 0), 0, 0), ((0, 0), 0, 0), ((0, 0), 0, 0), ((0, 0), 0, 0), ((0, 0), 0, 0), ((0, 0), 0, 0)] : Cube)) fun (r221 : (List Cube)) =>
  bif ((((List.length r221 : Nat) : Int) == 2) == true) then
    bif inRange 0 (List.length r221) then
    bif (((List.getD (List.getD r221 0 (List.replicate 24 ((0, 0), 0, 0))) 0 ((0, 0), 0, 0)).1.2 == 2) == true) then
      obind (some cube_All) fun (r222 : Cube) =>
      obind (carve_Many n r222 ([((0, 1), 0, 3), ((0, 0), 0, 0), ((0, 0), 0, 0), ((0, 0), 0, 0), ((0, 0), 0, 0), ((0, 0), 0, 0), ((0, 0), 0, 0), ((0, 0), 0, 0), ((0, 0), 0, 0), ((0, 0), 0, 0), ((0, 0), 0, 0), ((0, 0), 0, 0), ((0, 0), 0, 0), ((0, 0), 0, 0), ((0, 0), 0, 0), ((0, 0), 0, 0), ((0, 0), 0, 0), ((0, 0), 0, 0), ((0, 0), 0, 0), ((0, 0), 0, 0), ((0, 0), 0, 0), ((0, 0), 0, 0), ((0, 0), 0, 0), ((0, 0), 0, 0)] : Cube)) fun (r224 : Int) =>
      bif ((r224 == 2) == true) then
        obind (carve_List n ([((0, 1), 0, 3), ((0, 0), 0, 0), ((0, 0), 0, 0), ((0, 0), 0, 0), ((0, 0), 0, 0), ((0, 0), 0, 0), ((0, 0), 0, 0), ((0, 0), 0, 0), ((0, 0), 0, 0), ((0, 0), 0, 0), ((0, 0), 0, 0), ((0, 0), 0, 0), ((0, 0), 0, 0), ((0, 0), 0, 0), ((0, 0), 0, 0), ((0, 0), 0, 0), ((0, 0), 0, 0), ((0, 0), 0, 0), ((0, 0), 0, 0), ((0, 0), 0, 0), ((0, 0), 0, 0), ((0, 0), 0, 0), ((0, 0), 0, 0), ((0, 0), 0, 0)] : Cube) ([((0, 1), 0, 3), ((0, 0), 0, 0), ((0, 0), 0, 0), ((0, 0), 0, 0), ((0, 0), 0, 0), ((0, 0), 0, 0), ((0, 0), 0, 0), ((0, 0), 0, 0), ((0, 0), 0, 0), ((0, 0), 0, 0), ((0, 0), 0, 0), ((0, 0), 0, 0), ((0, 0), 0, 0), ((0, 0), 0, 0), ((0, 0), 0, 0), ((0, 0), 0, 0), ((0, 0), 0, 0), ((0, 0), 0, 0), ((0, 0), 0, 0), ((0, 0), 0, 0), ((0, 0), 0, 0), ((0, 0), 0, 0), ((0, 0), 0, 0), ((0, 0), 0, 0)] : Cube)) fun (r225 : (List Cube)) =>
        bif ((((List.length r225 : Nat) : Int) == 0) == true) then
          obind (carve_Parts n ([((0, 1), 0, 3), ((0, 0), 0, 0), ((0, 0), 0, 0), ((0, 0), 0, 0), ((0, 0), 0, 0), ((0, 0), 0, 0), ((0, 0), 0, 0), ((0, 0), 0, 0), ((0, 0), 0, 0), ((0, 0), 0, 0), ((0, 0), 0, 0), ((0, 0), 0, 0), ((0, 0), 0, 0), ((0, 0), 0, 0), ((0, 0), 0, 0), ((0, 0), 0, 0), ((0, 0), 0, 0), ((0, 0), 0, 0), ((0, 0), 0, 0), ((0, 0), 0, 0), ((0, 0), 0, 0), ((0, 0), 0, 0), ((0, 0), 0, 0), ((0, 0), 0, 0)] : Cube) ([((0, 1), 0, 3), ((0, 0), 0, 0), ((0, 0), 0, 0), ((0, 0), 0, 0), ((0, 0), 0, 0), ((0, 0), 0, 0), ((0, 0), 0, 0), ((0, 0), 0, 0), ((0, 0), 0, 0), ((0, 0), 0, 0), ((0, 0), 0, 0), ((0, 0), 0, 0), ((0, 0), 0, 0), ((0, 0), 0, 0), ((0, 0), 0, 0), ((0, 0), 0, 0), ((0, 0), 0, 0), ((0, 0), 0, 0), ((0, 0), 0, 0), ((0, 0), 0, 0), ((0, 0), 0, 0), ((0, 0), 0, 0), ((0, 0), 0, 0), ((0, 0), 0, 0)] : Cube)) fun (r226 : (List Cube)) =>
          some true
        else
        some false
      else
      some false
    else
    some false
    else none
  else
  some false

def law07_awake.τs : List Ty := []

def ref07_List.s1 (n : Nat) (k1 : ((List Cube) → Int → Cube → Option (List Cube))) (k0 : ((List Cube) → Int → Cube → Cube → Cube → Option (List Cube))) (out_1 : (List Cube)) (f_1 : Int) (l : (List Int)) (i : Int) (a_2 : Cube) (b_2 : Cube) (left_1 : Cube) : Option (List Cube) :=
  bif decide (i < ((List.length l : Nat) : Int)) then
    bif inRange f_1 24 then
    bif inRange i (List.length l) then
    obind (ref02_Has (List.getD b_2 (Int.toNat f_1) ((0, 0), 0, 0)).1 (List.getD l (Int.toNat i) 0)) fun (r232 : Bool) =>
    bif inRange f_1 24 then
    bif inRange i (List.length l) then
    obind (ref05_Fix (List.getD left_1 (Int.toNat f_1) ((0, 0), 0, 0)) (List.getD l (Int.toNat i) 0) (!r232)) fun (r233 : Tern) =>
    bif inRange f_1 24 then
    let y0 : Cube := List.set left_1 (Int.toNat f_1) r233
    bif decide ((List.length out_1 + List.length ([y0] : (List Cube))) * 768 ≤ 140737488355328) then
    bif inRange f_1 24 then
    bif inRange i (List.length l) then
    obind (ref05_Fix (List.getD left_1 (Int.toNat f_1) ((0, 0), 0, 0)) (List.getD l (Int.toNat i) 0) r232) fun (r234 : Tern) =>
    bif inRange f_1 24 then
    k1 (out_1 ++ ([y0] : (List Cube))) (IntKind.wrap .i64 (i + 1)) (List.set left_1 (Int.toNat f_1) r234)
    else none
    else none
    else none
    else none
    else none
    else none
    else none
    else none
    else none
  else
  k0 out_1 (IntKind.wrap .i64 (f_1 + 1)) a_2 b_2 left_1

def ref07_List.l1 (n : Nat) (f_1 : Int) (l : (List Int)) (a_2 : Cube) (b_2 : Cube) (k0 : ((List Cube) → Int → Cube → Cube → Cube → Option (List Cube))) : Nat → (List Cube) → Int → Cube → Option (List Cube)
  | 0, _, _, _ => none
  | m + 1, out_1, i, left_1 => ref07_List.s1 n (fun out_1' i' left_1' => ref07_List.l1 n f_1 l a_2 b_2 k0 m out_1' i' left_1') k0 out_1 f_1 l i a_2 b_2 left_1

def ref07_List.s0 (n : Nat) (k1 : ((List Cube) → Int → (List Int) → Int → Cube → Cube → Cube → Option (List Cube))) (out : (List Cube)) (f : Int) (a_1 : Cube) (b_1 : Cube) (left : Cube) : Option (List Cube) :=
  bif decide (f < 24) then
    bif inRange f 24 then
    bif inRange f 24 then
    obind (ref05_Bits n (List.getD a_1 (Int.toNat f) ((0, 0), 0, 0)) (List.getD b_1 (Int.toNat f) ((0, 0), 0, 0))) fun (r231 : (List Int)) =>
    k1 out f r231 0 a_1 b_1 left
    else none
    else none
  else
  some out

def ref07_List.l0 (n : Nat) (a_1 : Cube) (b_1 : Cube) : Nat → (List Cube) → Int → Cube → Option (List Cube)
  | 0, _, _, _ => none
  | m + 1, out, f, left => ref07_List.s0 n (fun out_1' f_1' l' i' a_2' b_2' left_1' => ref07_List.l1 n f_1' l' a_2' b_2' (fun out'' f'' a_1'' b_1'' left'' => ref07_List.l0 n a_1'' b_1'' m out'' f'' left'') n out_1' i' left_1') out f a_1 b_1 left

def ref07_List.s (n : Nat) (k0 : ((List Cube) → Int → Cube → Cube → Cube → Option (List Cube))) (a : Cube) (b : Cube) : Option (List Cube) :=
  obind (ref06_Clean n a) fun (r229 : Cube) =>
  obind (ref06_Meet n a b) fun (r230 : (Cube × Bool)) =>
  bif !r230.2 then
    some ([r229] : (List Cube))
  else
  k0 ([] : (List Cube)) 0 a b r229

def ref07_List (n : Nat) (a : Cube) (b : Cube) : Option (List Cube) := ref07_List.s n (fun out f a_1 b_1 left => ref07_List.l0 n a_1 b_1 n out f left) a b

def slices_Equal_Cube.s0 (n : Nat) (k0 : (Int → Option Bool)) (s1_1 : (List Cube)) (s2_1 : (List Cube)) (v12 : Int) (v13 : Int) : Option Bool :=
  bif decide (v13 < v12) then
    bif inRange v13 (List.length s1_1) then
    bif inRange v13 (List.length s2_1) then
    bif !(beqT TCube (List.getD s1_1 (Int.toNat v13) (List.replicate 24 ((0, 0), 0, 0))) (List.getD s2_1 (Int.toNat v13) (List.replicate 24 ((0, 0), 0, 0)))) then
      some false
    else
    k0 (IntKind.wrap .i64 (v13 + 1))
    else none
    else none
  else
  some true

def slices_Equal_Cube.l0 (n : Nat) (s1_1 : (List Cube)) (s2_1 : (List Cube)) (v12 : Int) : Nat → Int → Option Bool
  | 0, _ => none
  | m + 1, v13 => slices_Equal_Cube.s0 n (fun v13' => slices_Equal_Cube.l0 n s1_1 s2_1 v12 m v13') s1_1 s2_1 v12 v13

def slices_Equal_Cube.s (n : Nat) (k0 : ((List Cube) → (List Cube) → Int → Int → Option Bool)) (s1 : (List Cube)) (s2 : (List Cube)) : Option Bool :=
  bif (((List.length s1 : Nat) : Int) != ((List.length s2 : Nat) : Int)) then
    some false
  else
  k0 s1 s2 ((List.length s1 : Nat) : Int) 0

def slices_Equal_Cube (n : Nat) (s1 : (List Cube)) (s2 : (List Cube)) : Option Bool := slices_Equal_Cube.s n (fun s1_1 s2_1 v12 v13 => slices_Equal_Cube.l0 n s1_1 s2_1 v12 n v13) s1 s2

def law07_all.z0 (n : Nat) (out : (List Cube)) : Option (List Cube) :=
  some out

def law07_all.s0 (n : Nat) (k0 : ((List Cube) → Option (List Cube))) (out : (List Cube)) (x : Cube) : Option (List Cube) :=
  bif decide ((List.length out + List.length ([x] : (List Cube))) * 768 ≤ 140737488355328) then
  k0 (out ++ ([x] : (List Cube)))
  else none

def law07_all.l0 (n : Nat) : (List Cube) → (List Cube) → Option (List Cube)
  | [], out => law07_all.z0 n out
  | x :: xs, out => law07_all.s0 n (fun out' => law07_all.l0 n xs out') out x

def law07_all.s (n : Nat) (k0 : ((List Cube) → (List Cube) → Option (List Cube))) (a : Cube) (b : Cube) : Option (List Cube) :=
  obind (carve_Parts n a b) fun (r239 : (List Cube)) =>
  k0 r239 ([] : (List Cube))

def law07_all (n : Nat) (a : Cube) (b : Cube) : Option (List Cube) := law07_all.s n (fun xs out => law07_all.l0 n xs out) a b

def law07_all.τs : List Ty := [TCube, TCube]

def law07_CarveTells (n : Nat) (a : Cube) (b : Cube) : Option Bool :=
  obind (law07_awake n) fun (r227 : Bool) =>
  bif ((!r227) == false) then
    obind (carve_Parts n a b) fun (r228 : (List Cube)) =>
    obind (ref07_List n a b) fun (r235 : (List Cube)) =>
    obind (carve_List n a b) fun (r236 : (List Cube)) =>
    obind (slices_Equal_Cube n r236 r235) fun (r237 : Bool) =>
    bif (r237 == true) then
      obind (carve_Many n a b) fun (r238 : Int) =>
      bif ((r238 == ((List.length r235 : Nat) : Int)) == true) then
        obind (law07_all n a b) fun (r240 : (List Cube)) =>
        obind (slices_Equal_Cube n r240 r235) fun (r241 : Bool) =>
        some r241
      else
      some false
    else
    some false
  else
  some false

def law07_CarveTells.τs : List Ty := [TCube, TCube]

def law07_CarveApart.s0 (n : Nat) (k0 : (Int → Int → Option Bool)) (n7 : Int) (v12 : (List Cube)) (v13 : Int) (v14 : Int) (a_1 : Cube) (b_1 : Cube) (h_1 : Header) : Option Bool :=
  bif decide (v14 < v13) then
    bif inRange v14 (List.length v12) then
    obind (cube_Has n (List.getD v12 (Int.toNat v14) (List.replicate 24 ((0, 0), 0, 0))) h_1) fun (r243 : Bool) =>
    bif r243 then
      k0 (IntKind.wrap .i64 (n7 + 1)) (IntKind.wrap .i64 (v14 + 1))
    else
    k0 n7 (IntKind.wrap .i64 (v14 + 1))
    else none
  else
  obind (cube_Has n a_1 h_1) fun (r244 : Bool) =>
  bif (r244 == true) then
    obind (cube_Has n b_1 h_1) fun (r245 : Bool) =>
    bif !r245 then
      bif ((n7 == 1) == true) then
        obind (law07_awake n) fun (r246 : Bool) =>
        some r246
      else
      some false
    else
    bif ((n7 == 0) == true) then
      obind (law07_awake n) fun (r247 : Bool) =>
      some r247
    else
    some false
  else
  bif ((n7 == 0) == true) then
    obind (law07_awake n) fun (r248 : Bool) =>
    some r248
  else
  some false

def law07_CarveApart.l0 (n : Nat) (v12 : (List Cube)) (v13 : Int) (a_1 : Cube) (b_1 : Cube) (h_1 : Header) : Nat → Int → Int → Option Bool
  | 0, _, _ => none
  | m + 1, n7, v14 => law07_CarveApart.s0 n (fun n7' v14' => law07_CarveApart.l0 n v12 v13 a_1 b_1 h_1 m n7' v14') n7 v12 v13 v14 a_1 b_1 h_1

def law07_CarveApart.s (n : Nat) (k0 : (Int → (List Cube) → Int → Int → Cube → Cube → Header → Option Bool)) (a : Cube) (b : Cube) (h : Header) : Option Bool :=
  obind (carve_List n a b) fun (r242 : (List Cube)) =>
  k0 0 r242 ((List.length r242 : Nat) : Int) 0 a b h

def law07_CarveApart (n : Nat) (a : Cube) (b : Cube) (h : Header) : Option Bool := law07_CarveApart.s n (fun n7 v12 v13 v14 a_1 b_1 h_1 => law07_CarveApart.l0 n v12 v13 a_1 b_1 h_1 n n7 v14) a b h

def law07_CarveApart.τs : List Ty := [TCube, TCube, THeader]

def law07_CarveStops.z0 (n : Nat) (a_1 : Cube) (b_1 : Cube) (k5 : Int) (out : (List Cube)) : Option Bool :=
  obind (carve_List n a_1 b_1) fun (r254 : (List Cube)) =>
  let y0 : Int := IntKind.wrap .i64 (Int.tmod k5 8)
  let y1 : Int := IntKind.wrap .i64 (y0 + 1)
  let y2 : Int := minI ((List.length r254 : Nat) : Int) y1
  bif ((decide (0 ≤ y2)) && (decide (y2 ≤ ((List.length r254 : Nat) : Int)))) then
  obind (slices_Equal_Cube n out (sub r254 0 (Int.toNat y2))) fun (r255 : Bool) =>
  some r255
  else none

def law07_CarveStops.s0 (n : Nat) (k0 : ((List Cube) → Option Bool)) (a_1 : Cube) (b_1 : Cube) (k5 : Int) (out : (List Cube)) (x : Cube) : Option Bool :=
  bif decide ((List.length out + List.length ([x] : (List Cube))) * 768 ≤ 140737488355328) then
  let y0 : (List Cube) := (out ++ ([x] : (List Cube)))
  bif decide (((List.length y0 : Nat) : Int) > (IntKind.wrap .i64 (Int.tmod k5 8))) then
    obind (carve_List n a_1 b_1) fun (r252 : (List Cube)) =>
    let y1 : Int := IntKind.wrap .i64 (Int.tmod k5 8)
    let y2 : Int := IntKind.wrap .i64 (y1 + 1)
    let y3 : Int := minI ((List.length r252 : Nat) : Int) y2
    bif ((decide (0 ≤ y3)) && (decide (y3 ≤ ((List.length r252 : Nat) : Int)))) then
    obind (slices_Equal_Cube n y0 (sub r252 0 (Int.toNat y3))) fun (r253 : Bool) =>
    some r253
    else none
  else
  k0 y0
  else none

def law07_CarveStops.l0 (n : Nat) (a_1 : Cube) (b_1 : Cube) (k5 : Int) : (List Cube) → (List Cube) → Option Bool
  | [], out => law07_CarveStops.z0 n a_1 b_1 k5 out
  | x :: xs, out => law07_CarveStops.s0 n (fun out' => law07_CarveStops.l0 n a_1 b_1 k5 xs out') a_1 b_1 k5 out x

def law07_CarveStops.s (n : Nat) (k0 : ((List Cube) → Cube → Cube → Int → (List Cube) → Option Bool)) (a : Cube) (b : Cube) (k2 : Int) : Option Bool :=
  obind (law07_awake n) fun (r249 : Bool) =>
  bif ((!r249) == false) then
    obind (carve_Parts n a b) fun (r250 : (List Cube)) =>
    obind (carve_Parts n a b) fun (r251 : (List Cube)) =>
    k0 r251 a b k2 ([] : (List Cube))
  else
  some false

def law07_CarveStops (n : Nat) (a : Cube) (b : Cube) (k2 : Int) : Option Bool := law07_CarveStops.s n (fun xs a_1 b_1 k5 out => law07_CarveStops.l0 n a_1 b_1 k5 xs out) a b k2

def law07_CarveStops.τs : List Ty := [TCube, TCube, (.int .u8)]

end Go.Fn
