/- What the functions compute, as native texts: written by the session's program gen.py out of the translation. -/
import Derived.Test.YtoknbagoippnhaaViB
set_option linter.unusedVariables false
namespace Go.Fn
open Go Go.Vi

abbrev Wide := (Int × Int)
abbrev TWide : Ty := (.pair (.int .u64) (.int .u64))
abbrev Purse := (Int × Bool)
abbrev TPurse : Ty := (.pair (.int .i64) .bool)
abbrev Header := (List Wide)
abbrev THeader : Ty := (.arr 24 TWide)
abbrev Tern := (Wide × Wide)
abbrev TTern : Ty := (.pair TWide TWide)
abbrev Look := Purse
abbrev TLook : Ty := (.one TPurse)
abbrev Cube := (List Tern)
abbrev TCube : Ty := (.arr 24 TTern)
abbrev Atom := (Cube × (Bool × (Int × Int)))
abbrev TAtom : Ty := (.pair TCube (.pair .bool (.pair (.int .i64) (.int .i64))))
abbrev Oxm := (Int × (Bool × Tern))
abbrev TOxm : Ty := (.pair (.int .i64) (.pair .bool TTern))
abbrev Rule := (Cube × (List Atom))
abbrev TRule : Ty := (.pair TCube (.slc TAtom))
abbrev Action := (Int × (Int × (Int × (Int × (Int × Oxm)))))
abbrev TAction : Ty := (.pair (.int .i64) (.pair (.int .i64) (.pair (.int .i64) (.pair (.int .i64) (.pair (.int .i64) TOxm)))))
abbrev Bucket := (Int × (Int × (Int × (List Action))))
abbrev TBucket : Ty := (.pair (.int .i64) (.pair (.int .i64) (.pair (.int .i64) (.slc TAction))))
abbrev Group := (Int × (Int × (List Bucket)))
abbrev TGroup : Ty := (.pair (.int .i64) (.pair (.int .i64) (.slc TBucket)))
abbrev Flat := ((List Rule) × (List Group))
abbrev TFlat : Ty := (.pair (.slc TRule) (.slc TGroup))
abbrev Both := (Flat × Flat)
abbrev TBoth : Ty := (.pair TFlat TFlat)

def slices_IndexFunc_Rule.s0 (n : Nat) (k0 : (Int → Option Int)) (s_1 : (List Rule)) (f_1 : (Rule → Option Bool)) (v7 : Int) (v8 : Int) : Option Int :=
  bif decide (v8 < v7) then
    bif inRange v8 (List.length s_1) then
    obind (f_1 (List.getD s_1 (Int.toNat v8) (List.replicate 24 ((0, 0), 0, 0), ([] : (List Atom))))) fun (r1 : Bool) =>
    bif r1 then
      some v8
    else
    k0 (IntKind.wrap .i64 (v8 + 1))
    else none
  else
  some (-1)

def slices_IndexFunc_Rule.l0 (n : Nat) (s_1 : (List Rule)) (f_1 : (Rule → Option Bool)) (v7 : Int) : Nat → Int → Option Int
  | 0, _ => none
  | m + 1, v8 => slices_IndexFunc_Rule.s0 n (fun v8' => slices_IndexFunc_Rule.l0 n s_1 f_1 v7 m v8') s_1 f_1 v7 v8

def slices_IndexFunc_Rule.s (n : Nat) (k0 : ((List Rule) → (Rule → Option Bool) → Int → Int → Option Int)) (s : (List Rule)) (f : (Rule → Option Bool)) : Option Int :=
  k0 s f ((List.length s : Nat) : Int) 0

def slices_IndexFunc_Rule (n : Nat) (s : (List Rule)) (f : (Rule → Option Bool)) : Option Int := slices_IndexFunc_Rule.s n (fun s_1 f_1 v7 v8 => slices_IndexFunc_Rule.l0 n s_1 f_1 v7 n v8) s f

def slices_ContainsFunc_Rule (n : Nat) (s : (List Rule)) (f : (Rule → Option Bool)) : Option Bool :=
  obind (slices_IndexFunc_Rule n s f) fun (r2 : Int) =>
  some (decide (r2 ≥ 0))

def plain_Atoms (l : (List Atom)) : Bool :=
  decide (((List.length l : Nat) : Int) ≤ 12)

def plain_Rules_1_c (r : Rule) : Bool :=
  let r3 : Bool := plain_Atoms r.2
  !r3

def plain_Rules (n : Nat) (l : (List Rule)) (many : Int) : Option Bool :=
  bif ((decide (((List.length l : Nat) : Int) ≤ many)) == true) then
    obind (slices_ContainsFunc_Rule n l (fun (x4 : Rule) => some (plain_Rules_1_c x4))) fun (r5 : Bool) =>
    some (!r5)
  else
  some false

def ref34_Cubes.s0 (n : Nat) (k0 : ((List Cube) → Int → Option (List Cube))) (l_1 : (List Rule)) (out : (List Cube)) (i : Int) : Option (List Cube) :=
  bif decide (i < ((List.length l_1 : Nat) : Int)) then
    bif inRange i (List.length l_1) then
    let y0 : Cube := List.replicate 24 ((0, 0), 0, 0)
    let y1 : Rule := List.getD l_1 (Int.toNat i) (y0, ([] : (List Atom)))
    let y2 : Cube := y1.1
    bif decide ((List.length out + List.length ([y2] : (List Cube))) * 768 ≤ 140737488355328) then
    k0 (out ++ ([y2] : (List Cube))) (IntKind.wrap .i64 (i + 1))
    else none
    else none
  else
  some out

def ref34_Cubes.l0 (n : Nat) (l_1 : (List Rule)) : Nat → (List Cube) → Int → Option (List Cube)
  | 0, _, _ => none
  | m + 1, out, i => ref34_Cubes.s0 n (fun out' i' => ref34_Cubes.l0 n l_1 m out' i') l_1 out i

def ref34_Cubes.s (n : Nat) (k0 : ((List Rule) → (List Cube) → Int → Option (List Cube))) (l : (List Rule)) : Option (List Cube) :=
  k0 l ([] : (List Cube)) 0

def ref34_Cubes (n : Nat) (l : (List Rule)) : Option (List Cube) := ref34_Cubes.s n (fun l_1 out i => ref34_Cubes.l0 n l_1 n out i) l

def ref02_And (a : Wide) (b : Wide) : Wide :=
  (bitsI .and .u64 a.1 b.1, bitsI .and .u64 a.2 b.2)

def ref02_Xor (a : Wide) (b : Wide) : Wide :=
  (bitsI .xor .u64 a.1 b.1, bitsI .xor .u64 a.2 b.2)

def ref02_Zero (a : Wide) : Bool :=
  bif ((a.1 == 0) == true) then
    (a.2 == 0)
  else
  false
def ref02_Zero.o (a : Wide) : Option Bool :=
  bif ((a.1 == 0) == true) then
    some (a.2 == 0)
  else
  some false
theorem ref02_Zero.o_eq (a : Wide) : ref02_Zero.o a = some (ref02_Zero a) := by simp only [ref02_Zero.o, ref02_Zero, cond_some, obind_some]

def ref05_Clean (t : Tern) : Tern :=
  let r12 : Wide := ref02_And t.1 t.2
  (r12, t.2)

def ref02_Or (a : Wide) (b : Wide) : Wide :=
  (bitsI .or .u64 a.1 b.1, bitsI .or .u64 a.2 b.2)

def ref05_Meet (a : Tern) (b : Tern) : (Tern × Bool) :=
  let r8 : Wide := ref02_And a.2 b.2
  let r9 : Wide := ref02_Xor a.1 b.1
  let r10 : Wide := ref02_And r9 r8
  let r11 : Bool := ref02_Zero r10
  bif !r11 then
    (((0, 0), 0, 0), false)
  else
  let r13 : Tern := ref05_Clean a
  let r14 : Tern := ref05_Clean b
  let r15 : Wide := ref02_Or r13.1 r14.1
  let r16 : Wide := ref02_Or r13.2 r14.2
  ((r15, r16), true)
def ref05_Meet.o (a : Tern) (b : Tern) : Option (Tern × Bool) :=
  obind (some (ref02_And a.2 b.2)) fun (r8 : Wide) =>
  obind (some (ref02_Xor a.1 b.1)) fun (r9 : Wide) =>
  obind (some (ref02_And r9 r8)) fun (r10 : Wide) =>
  obind (some (ref02_Zero r10)) fun (r11 : Bool) =>
  bif !r11 then
    some (((0, 0), 0, 0), false)
  else
  obind (some (ref05_Clean a)) fun (r13 : Tern) =>
  obind (some (ref05_Clean b)) fun (r14 : Tern) =>
  obind (some (ref02_Or r13.1 r14.1)) fun (r15 : Wide) =>
  obind (some (ref02_Or r13.2 r14.2)) fun (r16 : Wide) =>
  some ((r15, r16), true)
theorem ref05_Meet.o_eq (a : Tern) (b : Tern) : ref05_Meet.o a b = some (ref05_Meet a b) := by simp only [ref05_Meet.o, ref05_Meet, cond_some, obind_some]

def ref06_Meet.s0 (n : Nat) (k0 : (Int → Cube → Option (Cube × Bool))) (f : Int) (a_1 : Cube) (b_1 : Cube) (v4 : Cube) (c : Cube) : Option (Cube × Bool) :=
  bif decide (f < 24) then
    bif inRange f 24 then
    bif inRange f 24 then
    obind (some (ref05_Meet (List.getD a_1 (Int.toNat f) ((0, 0), 0, 0)) (List.getD b_1 (Int.toNat f) ((0, 0), 0, 0)))) fun (r17 : (Tern × Bool)) =>
    bif !r17.2 then
      some (([((0, 0), 0, 0), ((0, 0), 0, 0), ((0, 0), 0, 0), ((0, 0), 0, 0), ((0, 0), 0, 0), ((0, 0), 0, 0), ((0, 0), 0, 0), ((0, 0), 0, 0), ((0, 0), 0, 0), ((0, 0), 0, 0), ((0, 0), 0, 0), ((0, 0), 0, 0), ((0, 0), 0, 0), ((0, 0), 0, 0), ((0, 0), 0, 0), ((0, 0), 0, 0), ((0, 0), 0, 0), ((0, 0), 0, 0), ((0, 0), 0, 0), ((0, 0), 0, 0), ((0, 0), 0, 0), ((0, 0), 0, 0), ((0, 0), 0, 0), ((0, 0), 0, 0)] : Cube), false)
    else
    bif inRange f 24 then
    k0 (IntKind.wrap .i64 (f + 1)) (List.set c (Int.toNat f) r17.1)
    else none
    else none
    else none
  else
  some (c, true)

def ref06_Meet.l0 (n : Nat) (a_1 : Cube) (b_1 : Cube) (v4 : Cube) : Nat → Int → Cube → Option (Cube × Bool)
  | 0, _, _ => none
  | m + 1, f, c => ref06_Meet.s0 n (fun f' c' => ref06_Meet.l0 n a_1 b_1 v4 m f' c') f a_1 b_1 v4 c

def ref06_Meet.s (n : Nat) (k0 : (Int → Cube → Cube → Cube → Cube → Option (Cube × Bool))) (a : Cube) (b : Cube) : Option (Cube × Bool) :=
  k0 0 a b (List.replicate 24 ((0, 0), 0, 0)) ([((0, 0), 0, 0), ((0, 0), 0, 0), ((0, 0), 0, 0), ((0, 0), 0, 0), ((0, 0), 0, 0), ((0, 0), 0, 0), ((0, 0), 0, 0), ((0, 0), 0, 0), ((0, 0), 0, 0), ((0, 0), 0, 0), ((0, 0), 0, 0), ((0, 0), 0, 0), ((0, 0), 0, 0), ((0, 0), 0, 0), ((0, 0), 0, 0), ((0, 0), 0, 0), ((0, 0), 0, 0), ((0, 0), 0, 0), ((0, 0), 0, 0), ((0, 0), 0, 0), ((0, 0), 0, 0), ((0, 0), 0, 0), ((0, 0), 0, 0), ((0, 0), 0, 0)] : Cube)

def ref06_Meet (n : Nat) (a : Cube) (b : Cube) : Option (Cube × Bool) := ref06_Meet.s n (fun f a_1 b_1 v4 c => ref06_Meet.l0 n a_1 b_1 v4 n f c) a b

def ref08_Meets.s0 (n : Nat) (k0 : ((List Cube) → Int → Option (List Cube))) (l_1 : (List Cube)) (out : (List Cube)) (i : Int) (c_1 : Cube) : Option (List Cube) :=
  bif decide (i < ((List.length l_1 : Nat) : Int)) then
    bif inRange i (List.length l_1) then
    obind (ref06_Meet n c_1 (List.getD l_1 (Int.toNat i) (List.replicate 24 ((0, 0), 0, 0)))) fun (r18 : (Cube × Bool)) =>
    bif r18.2 then
      bif inRange i (List.length l_1) then
      let y0 : Cube := List.replicate 24 ((0, 0), 0, 0)
      let y1 : Cube := List.getD l_1 (Int.toNat i) y0
      bif decide ((List.length out + List.length ([y1] : (List Cube))) * 768 ≤ 140737488355328) then
      k0 (out ++ ([y1] : (List Cube))) (IntKind.wrap .i64 (i + 1))
      else none
      else none
    else
    k0 out (IntKind.wrap .i64 (i + 1))
    else none
  else
  some out

def ref08_Meets.l0 (n : Nat) (l_1 : (List Cube)) (c_1 : Cube) : Nat → (List Cube) → Int → Option (List Cube)
  | 0, _, _ => none
  | m + 1, out, i => ref08_Meets.s0 n (fun out' i' => ref08_Meets.l0 n l_1 c_1 m out' i') l_1 out i c_1

def ref08_Meets.s (n : Nat) (k0 : ((List Cube) → (List Cube) → Int → Cube → Option (List Cube))) (c : Cube) (l : (List Cube)) : Option (List Cube) :=
  k0 l ([] : (List Cube)) 0 c

def ref08_Meets (n : Nat) (c : Cube) (l : (List Cube)) : Option (List Cube) := ref08_Meets.s n (fun l_1 out i c_1 => ref08_Meets.l0 n l_1 c_1 n out i) c l

def ref02_Bit (i : Int) : Option Wide :=
  bif ((decide (i < 0)) == false) then
    bif decide (i > 127) then
      some (0, 0)
    else
    bif decide (i < 64) then
      bif !(decide ((IntKind.wrap .u64 i) < 0)) then
      some (0, shlI .u64 1 (IntKind.wrap .u64 i))
      else none
    else
    let y0 : Int := IntKind.wrap .u64 (IntKind.wrap .i64 (i - 64))
    bif !(decide (y0 < 0)) then
    some (shlI .u64 1 y0, 0)
    else none
  else
  some (0, 0)

def ref02_Has (a : Wide) (i : Int) : Option Bool :=
  obind (ref02_Bit i) fun (r20 : Wide) =>
  obind (some (ref02_And a r20)) fun (r21 : Wide) =>
  obind (some (ref02_Zero r21)) fun (r22 : Bool) =>
  some (!r22)

def ref02_Many.s0 (n : Nat) (k0 : (Int → Int → Option Int)) (n3 : Int) (i : Int) (a_1 : Wide) : Option Int :=
  bif decide (i < 128) then
    obind (ref02_Has a_1 i) fun (r23 : Bool) =>
    bif r23 then
      k0 (IntKind.wrap .i64 (n3 + 1)) (IntKind.wrap .i64 (i + 1))
    else
    k0 n3 (IntKind.wrap .i64 (i + 1))
  else
  some n3

def ref02_Many.l0 (n : Nat) (a_1 : Wide) : Nat → Int → Int → Option Int
  | 0, _, _ => none
  | m + 1, n3, i => ref02_Many.s0 n (fun n3' i' => ref02_Many.l0 n a_1 m n3' i') n3 i a_1

def ref02_Many.s (n : Nat) (k0 : (Int → Int → Wide → Option Int)) (a : Wide) : Option Int :=
  k0 0 0 a

def ref02_Many (n : Nat) (a : Wide) : Option Int := ref02_Many.s n (fun n3 i a_1 => ref02_Many.l0 n a_1 n n3 i) a

def ref06_Size.s0 (n : Nat) (k0 : (Int → Int → Option Int)) (n3 : Int) (f : Int) (c_1 : Cube) : Option Int :=
  bif decide (f < 24) then
    bif inRange f 24 then
    obind (ref02_Many n (List.getD c_1 (Int.toNat f) ((0, 0), 0, 0)).2) fun (r24 : Int) =>
    k0 (IntKind.wrap .i64 (n3 + r24)) (IntKind.wrap .i64 (f + 1))
    else none
  else
  some n3

def ref06_Size.l0 (n : Nat) (c_1 : Cube) : Nat → Int → Int → Option Int
  | 0, _, _ => none
  | m + 1, n3, f => ref06_Size.s0 n (fun n3' f' => ref06_Size.l0 n c_1 m n3' f') n3 f c_1

def ref06_Size.s (n : Nat) (k0 : (Int → Int → Cube → Option Int)) (c : Cube) : Option Int :=
  k0 0 0 c

def ref06_Size (n : Nat) (c : Cube) : Option Int := ref06_Size.s n (fun n3 f c_1 => ref06_Size.l0 n c_1 n n3 f) c

def ref08_Bound.s0 (n : Nat) (k0 : (Int → Int → Option Int)) (m5 : (List Cube)) (n6 : Int) (i : Int) : Option Int :=
  bif decide (i < ((List.length m5 : Nat) : Int)) then
    bif inRange i (List.length m5) then
    obind (ref06_Size n (List.getD m5 (Int.toNat i) (List.replicate 24 ((0, 0), 0, 0)))) fun (r25 : Int) =>
    k0 (minI (IntKind.wrap .i64 (n6 * (maxI r25 1))) 1099511627776) (IntKind.wrap .i64 (i + 1))
    else none
  else
  some n6

def ref08_Bound.l0 (n : Nat) (m5 : (List Cube)) : Nat → Int → Int → Option Int
  | 0, _, _ => none
  | m + 1, n6, i => ref08_Bound.s0 n (fun n6' i' => ref08_Bound.l0 n m5 m n6' i') m5 n6 i

def ref08_Bound.s (n : Nat) (k0 : ((List Cube) → Int → Int → Option Int)) (c : Cube) (l : (List Cube)) : Option Int :=
  obind (ref08_Meets n c l) fun (r19 : (List Cube)) =>
  k0 r19 (minI (IntKind.wrap .i64 (((List.length r19 : Nat) : Int) + 1)) 1099511627776) 0

def ref08_Bound (n : Nat) (c : Cube) (l : (List Cube)) : Option Int := ref08_Bound.s n (fun m5 n6 i => ref08_Bound.l0 n m5 n n6 i) c l

def ref34_Bound.s0 (n : Nat) (k0 : (Int → Int → Option Int)) (l_1 : (List Rule)) (n3 : Int) (i : Int) : Option Int :=
  bif decide (i < ((List.length l_1 : Nat) : Int)) then
    bif inRange i (List.length l_1) then
    bif ((decide (0 ≤ i)) && (decide (i ≤ ((List.length l_1 : Nat) : Int)))) then
    obind (ref34_Cubes n (sub l_1 0 (Int.toNat i))) fun (r7 : (List Cube)) =>
    obind (ref08_Bound n (List.getD l_1 (Int.toNat i) (List.replicate 24 ((0, 0), 0, 0), ([] : (List Atom)))).1 r7) fun (r26 : Int) =>
    k0 (maxI n3 r26) (IntKind.wrap .i64 (i + 1))
    else none
    else none
  else
  some n3

def ref34_Bound.l0 (n : Nat) (l_1 : (List Rule)) : Nat → Int → Int → Option Int
  | 0, _, _ => none
  | m + 1, n3, i => ref34_Bound.s0 n (fun n3' i' => ref34_Bound.l0 n l_1 m n3' i') l_1 n3 i

def ref34_Bound.s (n : Nat) (k0 : ((List Rule) → Int → Int → Option Int)) (l : (List Rule)) : Option Int :=
  k0 l 0 0

def ref34_Bound (n : Nat) (l : (List Rule)) : Option Int := ref34_Bound.s n (fun l_1 n3 i => ref34_Bound.l0 n l_1 n n3 i) l

def law34_light (n : Nat) (l : (List Rule)) (most : Int) : Option Bool :=
  obind (plain_Rules n l 12) fun (r6 : Bool) =>
  bif (r6 == true) then
    bif ((decide (most ≤ 4096)) == false) then
      obind (ref34_Bound n l) fun (r27 : Int) =>
      some (decide (r27 ≤ 4096))
    else
    some true
  else
  some false

def law34_light.τs : List Ty := [(.slc TRule), (.int .i64)]

def cover_purse_pay (p : Purse) : Option (Purse × Bool) :=
  bif p.2 then
    some (p, true)
  else
  some ((IntKind.wrap .i64 (p.1 - 1), p.2), decide ((IntKind.wrap .i64 (p.1 - 1)) ≥ 0))

def wide_And (a : Wide) (b : Wide) : Wide :=
  (bitsI .and .u64 a.1 b.1, bitsI .and .u64 a.2 b.2)

def wide_Xor (a : Wide) (b : Wide) : Wide :=
  (bitsI .xor .u64 a.1 b.1, bitsI .xor .u64 a.2 b.2)

def tern_unlike (a : Wide) (b : Wide) (mask : Wide) : Wide :=
  let r31 : Wide := wide_Xor a b
  let r32 : Wide := wide_And r31 mask
  r32

def wide_Zero (a : Wide) : Bool :=
  ((bitsI .or .u64 a.1 a.2) == 0)

def tern_Has (t : Tern) (v : Wide) : Bool :=
  let r33 : Wide := tern_unlike t.1 v t.2
  let r34 : Bool := wide_Zero r33
  r34

def tern_Clean (t : Tern) : Tern :=
  let r36 : Wide := wide_And t.1 t.2
  (r36, t.2)

def wide_Or (a : Wide) (b : Wide) : Wide :=
  (bitsI .or .u64 a.1 b.1, bitsI .or .u64 a.2 b.2)

def tern_Meet (a : Tern) (b : Tern) : (Tern × Bool) :=
  let r30 : Wide := wide_And a.2 b.2
  let r35 : Bool := tern_Has (a.1, r30) b.1
  bif !r35 then
    (((0, 0), 0, 0), false)
  else
  let r37 : Tern := tern_Clean a
  let r38 : Tern := tern_Clean b
  let r39 : Wide := wide_Or r37.1 r38.1
  let r40 : Wide := wide_Or r37.2 r38.2
  ((r39, r40), true)
def tern_Meet.o (a : Tern) (b : Tern) : Option (Tern × Bool) :=
  obind (some (wide_And a.2 b.2)) fun (r30 : Wide) =>
  obind (some (tern_Has (a.1, r30) b.1)) fun (r35 : Bool) =>
  bif !r35 then
    some (((0, 0), 0, 0), false)
  else
  obind (some (tern_Clean a)) fun (r37 : Tern) =>
  obind (some (tern_Clean b)) fun (r38 : Tern) =>
  obind (some (wide_Or r37.1 r38.1)) fun (r39 : Wide) =>
  obind (some (wide_Or r37.2 r38.2)) fun (r40 : Wide) =>
  some ((r39, r40), true)
theorem tern_Meet.o_eq (a : Tern) (b : Tern) : tern_Meet.o a b = some (tern_Meet a b) := by simp only [tern_Meet.o, tern_Meet, cond_some, obind_some]

def cube_Meet_1 (i : Int) (c0 : Cube) (c1 : Cube) : Option (Tern × Bool) :=
  bif inRange i 24 then
  bif inRange i 24 then
  obind (some (tern_Meet (List.getD c0 (Int.toNat i) ((0, 0), 0, 0)) (List.getD c1 (Int.toNat i) ((0, 0), 0, 0)))) fun (r41 : (Tern × Bool)) =>
  some (r41.1, r41.2)
  else none
  else none

def cube_each.s0 (n : Nat) (k0 : (Int → Cube → Option (Cube × Bool))) (f_1 : (Int → Option (Tern × Bool))) (v8 : Int) (v2 : Cube) (c : Cube) : Option (Cube × Bool) :=
  bif decide (v8 < 24) then
    obind (f_1 v8) fun (r43 : (Tern × Bool)) =>
    bif !r43.2 then
      some (([((0, 0), 0, 0), ((0, 0), 0, 0), ((0, 0), 0, 0), ((0, 0), 0, 0), ((0, 0), 0, 0), ((0, 0), 0, 0), ((0, 0), 0, 0), ((0, 0), 0, 0), ((0, 0), 0, 0), ((0, 0), 0, 0), ((0, 0), 0, 0), ((0, 0), 0, 0), ((0, 0), 0, 0), ((0, 0), 0, 0), ((0, 0), 0, 0), ((0, 0), 0, 0), ((0, 0), 0, 0), ((0, 0), 0, 0), ((0, 0), 0, 0), ((0, 0), 0, 0), ((0, 0), 0, 0), ((0, 0), 0, 0), ((0, 0), 0, 0), ((0, 0), 0, 0)] : Cube), false)
    else
    bif inRange v8 24 then
    k0 (IntKind.wrap .i64 (v8 + 1)) (List.set c (Int.toNat v8) r43.1)
    else none
  else
  some (c, true)

def cube_each.l0 (n : Nat) (f_1 : (Int → Option (Tern × Bool))) (v2 : Cube) : Nat → Int → Cube → Option (Cube × Bool)
  | 0, _, _ => none
  | m + 1, v8, c => cube_each.s0 n (fun v8' c' => cube_each.l0 n f_1 v2 m v8' c') f_1 v8 v2 c

def cube_each.s (n : Nat) (k0 : ((Int → Option (Tern × Bool)) → Int → Cube → Cube → Option (Cube × Bool))) (f : (Int → Option (Tern × Bool))) : Option (Cube × Bool) :=
  k0 f 0 (List.replicate 24 ((0, 0), 0, 0)) (List.replicate 24 ((0, 0), 0, 0))

def cube_each (n : Nat) (f : (Int → Option (Tern × Bool))) : Option (Cube × Bool) := cube_each.s n (fun f_1 v8 v2 c => cube_each.l0 n f_1 v2 n v8 c) f

def cube_Meet (n : Nat) (a : Cube) (b : Cube) : Option (Cube × Bool) :=
  obind (cube_each n (fun (x42 : Int) => cube_Meet_1 x42 a b)) fun (r44 : (Cube × Bool)) =>
  some (r44.1, r44.2)

def wide_Less (a : Wide) (b : Wide) : Wide :=
  (bitsI .andNot .u64 a.1 b.1, bitsI .andNot .u64 a.2 b.2)

def tern_Within (a : Tern) (b : Tern) : Bool :=
  let r46 : Wide := wide_Less b.2 a.2
  let r47 : Bool := wide_Zero r46
  bif (r47 == true) then
    let r48 : Bool := tern_Has b a.1
    r48
  else
  false
def tern_Within.o (a : Tern) (b : Tern) : Option Bool :=
  obind (some (wide_Less b.2 a.2)) fun (r46 : Wide) =>
  obind (some (wide_Zero r46)) fun (r47 : Bool) =>
  bif (r47 == true) then
    obind (some (tern_Has b a.1)) fun (r48 : Bool) =>
    some r48
  else
  some false
theorem tern_Within.o_eq (a : Tern) (b : Tern) : tern_Within.o a b = some (tern_Within a b) := by simp only [tern_Within.o, tern_Within, cond_some, obind_some]

def cube_Within.s0 (n : Nat) (k0 : (Int → Option Bool)) (v7 : Cube) (v8 : Int) (b_1 : Cube) : Option Bool :=
  bif decide (v8 < 24) then
    bif inRange v8 24 then
    bif inRange v8 24 then
    obind (some (tern_Within (List.getD v7 (Int.toNat v8) ((0, 0), 0, 0)) (List.getD b_1 (Int.toNat v8) ((0, 0), 0, 0)))) fun (r49 : Bool) =>
    bif !r49 then
      some false
    else
    k0 (IntKind.wrap .i64 (v8 + 1))
    else none
    else none
  else
  some true

def cube_Within.l0 (n : Nat) (v7 : Cube) (b_1 : Cube) : Nat → Int → Option Bool
  | 0, _ => none
  | m + 1, v8 => cube_Within.s0 n (fun v8' => cube_Within.l0 n v7 b_1 m v8') v7 v8 b_1

def cube_Within.s (n : Nat) (k0 : (Cube → Int → Cube → Option Bool)) (a : Cube) (b : Cube) : Option Bool :=
  k0 a 0 b

def cube_Within (n : Nat) (a : Cube) (b : Cube) : Option Bool := cube_Within.s n (fun v7 v8 b_1 => cube_Within.l0 n v7 b_1 n v8) a b

def cover_among.s0 (n : Nat) (k0 : (Int → Int → Option (Bool × Int))) (first : Int) (v11 : (List Cube)) (v12 : Int) (v13 : Int) (c_1 : Cube) : Option (Bool × Int) :=
  bif decide (v13 < v12) then
    bif inRange v13 (List.length v11) then
    let y0 : Cube := List.replicate 24 ((0, 0), 0, 0)
    let y1 : Cube := List.getD v11 (Int.toNat v13) y0
    obind (cube_Meet n c_1 y1) fun (r45 : (Cube × Bool)) =>
    bif !r45.2 then
      k0 first (IntKind.wrap .i64 (v13 + 1))
    else
    obind (cube_Within n c_1 y1) fun (r50 : Bool) =>
    bif r50 then
      some (true, v13)
    else
    bif decide (first < 0) then
      k0 v13 (IntKind.wrap .i64 (v13 + 1))
    else
    k0 first (IntKind.wrap .i64 (v13 + 1))
    else none
  else
  some (false, first)

def cover_among.l0 (n : Nat) (v11 : (List Cube)) (v12 : Int) (c_1 : Cube) : Nat → Int → Int → Option (Bool × Int)
  | 0, _, _ => none
  | m + 1, first, v13 => cover_among.s0 n (fun first' v13' => cover_among.l0 n v11 v12 c_1 m first' v13') first v11 v12 v13 c_1

def cover_among.s (n : Nat) (k0 : (Int → (List Cube) → Int → Int → Cube → Option (Bool × Int))) (c : Cube) (l : (List Cube)) : Option (Bool × Int) :=
  k0 (-1) l ((List.length l : Nat) : Int) 0 c

def cover_among (n : Nat) (c : Cube) (l : (List Cube)) : Option (Bool × Int) := cover_among.s n (fun first v11 v12 v13 c_1 => cover_among.l0 n v11 v12 c_1 n first v13) c l

def cube_Pick.s0 (n : Nat) (k0 : (Int → Header → Option Header)) (v6 : Cube) (v7 : Int) (v2 : Header) (h : Header) : Option Header :=
  bif decide (v7 < 24) then
    bif inRange v7 24 then
    obind (some (tern_Clean (List.getD v6 (Int.toNat v7) ((0, 0), 0, 0)))) fun (r52 : Tern) =>
    bif inRange v7 24 then
    k0 (IntKind.wrap .i64 (v7 + 1)) (List.set h (Int.toNat v7) r52.1)
    else none
    else none
  else
  some h

def cube_Pick.l0 (n : Nat) (v6 : Cube) (v2 : Header) : Nat → Int → Header → Option Header
  | 0, _, _ => none
  | m + 1, v7, h => cube_Pick.s0 n (fun v7' h' => cube_Pick.l0 n v6 v2 m v7' h') v6 v7 v2 h

def cube_Pick.s (n : Nat) (k0 : (Cube → Int → Header → Header → Option Header)) (c : Cube) : Option Header :=
  k0 c 0 (List.replicate 24 (0, 0)) (List.replicate 24 (0, 0))

def cube_Pick (n : Nat) (c : Cube) : Option Header := cube_Pick.s n (fun v6 v7 v2 h => cube_Pick.l0 n v6 v2 n v7 h) c

def cube_Clean_1 (i : Int) (c0 : Cube) : Option (Tern × Bool) :=
  bif inRange i 24 then
  obind (some (tern_Clean (List.getD c0 (Int.toNat i) ((0, 0), 0, 0)))) fun (r54 : Tern) =>
  some (r54, true)
  else none

def cube_Clean (n : Nat) (c : Cube) : Option Cube :=
  obind (cube_each n (fun (x55 : Int) => cube_Clean_1 x55 c)) fun (r56 : (Cube × Bool)) =>
  some r56.1

def math_bits_OnesCount64 (x : Int) : Int :=
  let y0 : Int := IntKind.wrap .u64 ((bitsI .and .u64 (shrI .u64 x 1) 6148914691236517205) + (bitsI .and .u64 x 6148914691236517205))
  let y1 : Int := IntKind.wrap .u64 ((bitsI .and .u64 (shrI .u64 y0 2) 3689348814741910323) + (bitsI .and .u64 y0 3689348814741910323))
  let y2 : Int := bitsI .and .u64 (IntKind.wrap .u64 ((shrI .u64 y1 4) + y1)) 1085102592571150095
  let y3 : Int := IntKind.wrap .u64 (y2 + (shrI .u64 y2 8))
  let y4 : Int := IntKind.wrap .u64 (y3 + (shrI .u64 y3 16))
  bitsI .and .i64 (IntKind.wrap .i64 (IntKind.wrap .u64 (y4 + (shrI .u64 y4 32)))) 127

def wide_Many (a : Wide) : Int :=
  let r60 : Int := math_bits_OnesCount64 a.1
  let r61 : Int := math_bits_OnesCount64 a.2
  IntKind.wrap .i64 (r60 + r61)

def wide_Bit (i : Int) : Option Wide :=
  bif ((decide (i < 0)) == false) then
    bif decide (i > 127) then
      some (0, 0)
    else
    bif !(decide ((Int.tmod i 64) < 0)) then
    bif inRange (IntKind.wrap .i64 (Int.tdiv i 64)) 2 then
    let y0 : (List Int) := List.set (List.replicate 2 0) (Int.toNat (IntKind.wrap .i64 (Int.tdiv i 64))) (shlI .u64 1 (Int.tmod i 64))
    some (List.getD y0 1 0, List.getD y0 0 0)
    else none
    else none
  else
  some (0, 0)

def wide_Has (a : Wide) (i : Int) : Option Bool :=
  obind (wide_Bit i) fun (r63 : Wide) =>
  obind (some (wide_And a r63)) fun (r64 : Wide) =>
  obind (some (wide_Zero r64)) fun (r65 : Bool) =>
  some (!r65)

def tern_Bits.s0 (n : Nat) (k0 : ((List Int) → Int → Option (List Int))) (out : (List Int)) (i : Int) (free : Wide) : Option (List Int) :=
  bif ((decide (i ≥ 0)) == true) then
    obind (some (wide_Many free)) fun (r62 : Int) =>
    bif decide (((List.length out : Nat) : Int) < r62) then
      obind (wide_Has free i) fun (r66 : Bool) =>
      bif r66 then
        bif decide ((List.length out + List.length ([i] : (List Int))) * 8 ≤ 140737488355328) then
        k0 (out ++ ([i] : (List Int))) (IntKind.wrap .i64 (i - 1))
        else none
      else
      k0 out (IntKind.wrap .i64 (i - 1))
    else
    some out
  else
  some out

def tern_Bits.l0 (n : Nat) (free : Wide) : Nat → (List Int) → Int → Option (List Int)
  | 0, _, _ => none
  | m + 1, out, i => tern_Bits.s0 n (fun out' i' => tern_Bits.l0 n free m out' i') out i free

def tern_Bits.s (n : Nat) (k0 : ((List Int) → Int → Wide → Option (List Int))) (a : Tern) (b : Tern) : Option (List Int) :=
  obind (some (wide_Less b.2 a.2)) fun (r59 : Wide) =>
  k0 ([] : (List Int)) 127 r59

def tern_Bits (n : Nat) (a : Tern) (b : Tern) : Option (List Int) := tern_Bits.s n (fun out i free => tern_Bits.l0 n free n out i) a b

def tern_Fix (t : Tern) (i : Int) (on : Bool) : Option Tern :=
  obind (wide_Bit i) fun (r69 : Wide) =>
  obind (some (tern_Clean t)) fun (r70 : Tern) =>
  obind (some (wide_Or r70.2 r69)) fun (r71 : Wide) =>
  obind (some (wide_Less r70.1 r69)) fun (r72 : Wide) =>
  bif on then
    obind (some (wide_Or r72 r69)) fun (r73 : Wide) =>
    some (r73, r71)
  else
  some (r72, r71)

def carve_Parts_1.s1 (n : Nat) (k1 : (Int → Cube → Option (List Cube))) (k0 : (Cube → Int → Cube → Option (List Cube))) (f : Int) (v27_1 : Cube) (v28_1 : Int) (v40 : (List Int)) (v41 : Int) (v42 : Int) (left_1 : Cube) (t : Tern) : Option (List Cube) :=
  bif decide (v42 < v41) then
    bif inRange v42 (List.length v40) then
    let y0 : Int := List.getD v40 (Int.toNat v42) 0
    obind (wide_Has t.1 y0) fun (r68 : Bool) =>
    bif inRange f 24 then
    obind (tern_Fix (List.getD left_1 (Int.toNat f) ((0, 0), 0, 0)) y0 (!r68)) fun (r74 : Tern) =>
    bif inRange f 24 then
    obind (
      bif inRange f 24 then
      obind (tern_Fix (List.getD left_1 (Int.toNat f) ((0, 0), 0, 0)) y0 r68) fun (r75 : Tern) =>
      bif inRange f 24 then
      k1 (IntKind.wrap .i64 (v42 + 1)) (List.set left_1 (Int.toNat f) r75)
      else none
      else none
    ) fun (z2 : (List Cube)) => some (List.set left_1 (Int.toNat f) r74 :: z2)
    else none
    else none
    else none
  else
  k0 v27_1 (IntKind.wrap .i64 (v28_1 + 1)) left_1

def carve_Parts_1.l1 (n : Nat) (f : Int) (v27_1 : Cube) (v28_1 : Int) (v40 : (List Int)) (v41 : Int) (t : Tern) (k0 : (Cube → Int → Cube → Option (List Cube))) : Nat → Int → Cube → Option (List Cube)
  | 0, _, _ => none
  | m + 1, v42, left_1 => carve_Parts_1.s1 n (fun v42' left_1' => carve_Parts_1.l1 n f v27_1 v28_1 v40 v41 t k0 m v42' left_1') k0 f v27_1 v28_1 v40 v41 v42 left_1 t

def carve_Parts_1.s0 (n : Nat) (k0 : (Int → Cube → Option (List Cube))) (k1 : (Int → Cube → Int → (List Int) → Int → Int → Cube → Tern → Option (List Cube))) (v27 : Cube) (v28 : Int) (left : Cube) : Option (List Cube) :=
  bif decide (v28 < 24) then
    bif inRange v28 24 then
    bif inRange v28 24 then
    let y0 : Tern := List.getD v27 (Int.toNat v28) ((0, 0), 0, 0)
    obind (tern_Bits n (List.getD left (Int.toNat v28) ((0, 0), 0, 0)) y0) fun (r67 : (List Int)) =>
    bif (((List.length r67 : Nat) : Int) == 0) then
      k0 (IntKind.wrap .i64 (v28 + 1)) left
    else
    k1 v28 v27 v28 r67 ((List.length r67 : Nat) : Int) 0 left y0
    else none
    else none
  else
  some []

def carve_Parts_1.l0 (n : Nat) (v27 : Cube) : Nat → Int → Cube → Option (List Cube)
  | 0, _, _ => none
  | m + 1, v28, left => carve_Parts_1.s0 n (fun v28' left' => carve_Parts_1.l0 n v27 m v28' left') (fun f' v27_1' v28_1' v40' v41' v42' left_1' t' => carve_Parts_1.l1 n f' v27_1' v28_1' v40' v41' t' (fun v27'' v28'' left'' => carve_Parts_1.l0 n v27'' m v28'' left'') n v42' left_1') v27 v28 left

def carve_Parts_1.s (n : Nat) (k0 : (Cube → Int → Cube → Option (List Cube))) (c0 : Cube) (c1 : Cube) : Option (List Cube) :=
  obind (cube_Clean n c0) fun (r57 : Cube) =>
  obind (cube_Meet n c0 c1) fun (r58 : (Cube × Bool)) =>
  bif !r58.2 then
    obind (
      some []
    ) fun (z1 : (List Cube)) => some (r57 :: z1)
  else
  k0 c1 0 r57

def carve_Parts_1 (n : Nat) (c0 : Cube) (c1 : Cube) : Option (List Cube) := carve_Parts_1.s n (fun v27 v28 left => carve_Parts_1.l0 n v27 n v28 left) c0 c1

def carve_Parts (n : Nat) (a : Cube) (b : Cube) : Option (List Cube) :=
  obind (carve_Parts_1 n a b) fun (r76 : (List Cube)) =>
  some r76

def cover_look_at.z0 (n : Nat) (rec : Look → Cube → (List Cube) → Option (Look × Header × Bool × Bool)) (s_1 : Purse) (l_1 : (List Cube)) (v6 : Header) (i : Int) (h : Header) (found : Bool) (enough : Bool) : Option (Look × Header × Bool × Bool) :=
  some (s_1, h, found, enough)

def cover_look_at.s0 (n : Nat) (rec : Look → Cube → (List Cube) → Option (Look × Header × Bool × Bool)) (k0 : (Purse → Header → Bool → Bool → Option (Look × Header × Bool × Bool))) (s_1 : Purse) (l_1 : (List Cube)) (v6 : Header) (i : Int) (h : Header) (found : Bool) (enough : Bool) (x : Cube) : Option (Look × Header × Bool × Bool) :=
  bif ((decide (0 ≤ (IntKind.wrap .i64 (i + 1)))) && (decide ((IntKind.wrap .i64 (i + 1)) ≤ ((List.length l_1 : Nat) : Int)))) then
  obind (rec s_1 x (List.drop (Int.toNat (IntKind.wrap .i64 (i + 1))) l_1)) fun (r78 : (Look × Header × Bool × Bool)) =>
  bif (r78.2.2.1 == false) then
    bif !r78.2.2.2 then
      some (r78.1, r78.2.1, r78.2.2.1, r78.2.2.2)
    else
    k0 r78.1 r78.2.1 r78.2.2.1 r78.2.2.2
  else
  some (r78.1, r78.2.1, r78.2.2.1, r78.2.2.2)
  else none

def cover_look_at.l0 (n : Nat) (rec : Look → Cube → (List Cube) → Option (Look × Header × Bool × Bool)) (l_1 : (List Cube)) (v6 : Header) (i : Int) : (List Cube) → Purse → Header → Bool → Bool → Option (Look × Header × Bool × Bool)
  | [], s_1, h, found, enough => cover_look_at.z0 n rec s_1 l_1 v6 i h found enough
  | x :: xs, s_1, h, found, enough => cover_look_at.s0 n rec (fun s_1' h' found' enough' => cover_look_at.l0 n rec l_1 v6 i xs s_1' h' found' enough') s_1 l_1 v6 i h found enough x

def cover_look_at.s (n : Nat) (rec : Look → Cube → (List Cube) → Option (Look × Header × Bool × Bool)) (k0 : ((List Cube) → Purse → (List Cube) → Header → Int → Header → Bool → Bool → Option (Look × Header × Bool × Bool))) (s : Look) (c : Cube) (l : (List Cube)) : Option (Look × Header × Bool × Bool) :=
  obind (cover_purse_pay s) fun (r29 : (Purse × Bool)) =>
  bif !r29.2 then
    some (r29.1, ([(0, 0), (0, 0), (0, 0), (0, 0), (0, 0), (0, 0), (0, 0), (0, 0), (0, 0), (0, 0), (0, 0), (0, 0), (0, 0), (0, 0), (0, 0), (0, 0), (0, 0), (0, 0), (0, 0), (0, 0), (0, 0), (0, 0), (0, 0), (0, 0)] : Header), false, false)
  else
  obind (cover_among n c l) fun (r51 : (Bool × Int)) =>
  bif r51.1 then
    some (r29.1, ([(0, 0), (0, 0), (0, 0), (0, 0), (0, 0), (0, 0), (0, 0), (0, 0), (0, 0), (0, 0), (0, 0), (0, 0), (0, 0), (0, 0), (0, 0), (0, 0), (0, 0), (0, 0), (0, 0), (0, 0), (0, 0), (0, 0), (0, 0), (0, 0)] : Header), false, true)
  else
  bif decide (r51.2 < 0) then
    obind (cube_Pick n c) fun (r53 : Header) =>
    some (r29.1, r53, true, true)
  else
  bif inRange r51.2 (List.length l) then
  obind (carve_Parts n c (List.getD l (Int.toNat r51.2) (List.replicate 24 ((0, 0), 0, 0)))) fun (r77 : (List Cube)) =>
  k0 r77 r29.1 l (List.replicate 24 (0, 0)) r51.2 (List.replicate 24 (0, 0)) false true
  else none

def cover_look_at (n : Nat) : Nat → Look → Cube → (List Cube) → Option (Look × Header × Bool × Bool)
  | 0, _, _, _ => none
  | k + 1, s, c, l => cover_look_at.s n (cover_look_at n k) (fun xs s_1 l_1 v6 i h found enough => cover_look_at.l0 n (cover_look_at n k) l_1 v6 i xs s_1 h found enough) s c l

def cover_Look (n : Nat) (c : Cube) (l : (List Cube)) (most : Int) : Option (Header × Bool × Int) :=
  obind (cover_look_at n n (maxI most 0, decide (most ≥ 1099511627776)) c l) fun (r79 : (Look × Header × Bool × Bool)) =>
  bif !r79.2.2.2 then
    some (([(0, 0), (0, 0), (0, 0), (0, 0), (0, 0), (0, 0), (0, 0), (0, 0), (0, 0), (0, 0), (0, 0), (0, 0), (0, 0), (0, 0), (0, 0), (0, 0), (0, 0), (0, 0), (0, 0), (0, 0), (0, 0), (0, 0), (0, 0), (0, 0)] : Header), false, 5)
  else
  some (r79.2.1, r79.2.2.1, 0)

def slices_Clone_Rule (s : (List Rule)) : Option (List Rule) := bif decide ((List.length ([] : (List Rule)) + List.length s) * 792 ≤ 140737488355328) then some s else none

def slices_Clone_Atom (s : (List Atom)) : Option (List Atom) := bif decide ((List.length ([] : (List Atom)) + List.length s) * 792 ≤ 140737488355328) then some s else none

def shadow_copies.s0 (n : Nat) (k0 : (Int → (List Rule) → Option (List Rule))) (v8 : Int) (v9 : Int) (v6 : (List Rule)) : Option (List Rule) :=
  bif decide (v9 < v8) then
    bif inRange v9 (List.length v6) then
    obind (slices_Clone_Atom (List.getD v6 (Int.toNat v9) (List.replicate 24 ((0, 0), 0, 0), ([] : (List Atom)))).2) fun (r82 : (List Atom)) =>
    bif inRange v9 (List.length v6) then
    k0 (IntKind.wrap .i64 (v9 + 1)) (List.set v6 (Int.toNat v9) ((List.getD v6 (Int.toNat v9) (List.replicate 24 ((0, 0), 0, 0), ([] : (List Atom)))).1, r82))
    else none
    else none
  else
  some v6

def shadow_copies.l0 (n : Nat) (v8 : Int) : Nat → Int → (List Rule) → Option (List Rule)
  | 0, _, _ => none
  | m + 1, v9, v6 => shadow_copies.s0 n (fun v9' v6' => shadow_copies.l0 n v8 m v9' v6') v8 v9 v6

def shadow_copies.s (n : Nat) (k0 : (Int → Int → (List Rule) → Option (List Rule))) (l : (List Rule)) : Option (List Rule) :=
  obind (slices_Clone_Rule l) fun (r81 : (List Rule)) =>
  k0 ((List.length r81 : Nat) : Int) 0 r81

def shadow_copies (n : Nat) (l : (List Rule)) : Option (List Rule) := shadow_copies.s n (fun v8 v9 v6 => shadow_copies.l0 n v8 n v9 v6) l

def shadow_Drop.s0 (n : Nat) (k0 : ((List Rule) → (List Cube) → Int → Option ((List Rule) × Int))) (most_1 : Int) (kept : (List Rule)) (cubes : (List Cube)) (v13 : (List Rule)) (v14 : Int) (v15 : Int) : Option ((List Rule) × Int) :=
  bif decide (v15 < v14) then
    bif inRange v15 (List.length v13) then
    let y0 : Cube := List.replicate 24 ((0, 0), 0, 0)
    let y1 : Rule := List.getD v13 (Int.toNat v15) (y0, ([] : (List Atom)))
    obind (cover_Look n y1.1 cubes most_1) fun (r80 : (Header × Bool × Int)) =>
    bif (r80.2.2 != 0) then
      some (([] : (List Rule)), r80.2.2)
    else
    bif !r80.2.1 then
      k0 kept cubes (IntKind.wrap .i64 (v15 + 1))
    else
    bif decide ((List.length kept + List.length ([y1] : (List Rule))) * 792 ≤ 140737488355328) then
    let y2 : Cube := y1.1
    bif decide ((List.length cubes + List.length ([y2] : (List Cube))) * 768 ≤ 140737488355328) then
    k0 (kept ++ ([y1] : (List Rule))) (cubes ++ ([y2] : (List Cube))) (IntKind.wrap .i64 (v15 + 1))
    else none
    else none
    else none
  else
  obind (shadow_copies n kept) fun (r83 : (List Rule)) =>
  some (r83, 0)

def shadow_Drop.l0 (n : Nat) (most_1 : Int) (v13 : (List Rule)) (v14 : Int) : Nat → (List Rule) → (List Cube) → Int → Option ((List Rule) × Int)
  | 0, _, _, _ => none
  | m + 1, kept, cubes, v15 => shadow_Drop.s0 n (fun kept' cubes' v15' => shadow_Drop.l0 n most_1 v13 v14 m kept' cubes' v15') most_1 kept cubes v13 v14 v15

def shadow_Drop.s (n : Nat) (k0 : (Int → (List Rule) → (List Cube) → (List Rule) → Int → Int → Option ((List Rule) × Int))) (l : (List Rule)) (most : Int) : Option ((List Rule) × Int) :=
  k0 most ([] : (List Rule)) ([] : (List Cube)) l ((List.length l : Nat) : Int) 0

def shadow_Drop (n : Nat) (l : (List Rule)) (most : Int) : Option ((List Rule) × Int) := shadow_Drop.s n (fun most_1 kept cubes v13 v14 v15 => shadow_Drop.l0 n most_1 v13 v14 n kept cubes v15) l most

def shadow_Cubes.s0 (n : Nat) (k0 : (Int → (List Cube) → Option (List Cube))) (v9 : (List Rule)) (v10 : Int) (v11 : Int) (v8 : (List Cube)) : Option (List Cube) :=
  bif decide (v11 < v10) then
    bif inRange v11 (List.length v9) then
    bif inRange v11 (List.length v8) then
    k0 (IntKind.wrap .i64 (v11 + 1)) (List.set v8 (Int.toNat v11) (List.getD v9 (Int.toNat v11) (List.replicate 24 ((0, 0), 0, 0), ([] : (List Atom)))).1)
    else none
    else none
  else
  some v8

def shadow_Cubes.l0 (n : Nat) (v9 : (List Rule)) (v10 : Int) : Nat → Int → (List Cube) → Option (List Cube)
  | 0, _, _ => none
  | m + 1, v11, v8 => shadow_Cubes.s0 n (fun v11' v8' => shadow_Cubes.l0 n v9 v10 m v11' v8') v9 v10 v11 v8

def shadow_Cubes.s (n : Nat) (k0 : ((List Rule) → Int → Int → (List Cube) → Option (List Cube))) (l : (List Rule)) : Option (List Cube) :=
  bif ((decide (0 ≤ ((List.length l : Nat) : Int))) && ((decide (((List.length l : Nat) : Int) ≤ ((List.length l : Nat) : Int))) && (decide (((List.length l : Nat) : Int) * ((768 : Nat) : Int) ≤ 281474976710656)))) then
  k0 l ((List.length l : Nat) : Int) 0 (List.replicate (Int.toNat ((List.length l : Nat) : Int)) (List.replicate 24 ((0, 0), 0, 0)))
  else none

def shadow_Cubes (n : Nat) (l : (List Rule)) : Option (List Cube) := shadow_Cubes.s n (fun v9 v10 v11 v8 => shadow_Cubes.l0 n v9 v10 n v11 v8) l

def shadow_Look (n : Nat) (l : (List Rule)) (i : Int) (most : Int) : Option (Header × Bool × Int) :=
  bif ((decide (i < 0)) == false) then
    bif decide (i ≥ ((List.length l : Nat) : Int)) then
      some (([(0, 0), (0, 0), (0, 0), (0, 0), (0, 0), (0, 0), (0, 0), (0, 0), (0, 0), (0, 0), (0, 0), (0, 0), (0, 0), (0, 0), (0, 0), (0, 0), (0, 0), (0, 0), (0, 0), (0, 0), (0, 0), (0, 0), (0, 0), (0, 0)] : Header), false, 6)
    else
    obind (shadow_Cubes n l) fun (r86 : (List Cube)) =>
    bif inRange i (List.length r86) then
    bif ((decide (0 ≤ i)) && ((decide (i = i)) && (decide (i ≤ ((List.length r86 : Nat) : Int))))) then
    obind (cover_Look n (List.getD r86 (Int.toNat i) (List.replicate 24 ((0, 0), 0, 0))) (sub r86 0 (Int.toNat i)) most) fun (r87 : (Header × Bool × Int)) =>
    some (r87.1, r87.2.1, r87.2.2)
    else none
    else none
  else
  some (([(0, 0), (0, 0), (0, 0), (0, 0), (0, 0), (0, 0), (0, 0), (0, 0), (0, 0), (0, 0), (0, 0), (0, 0), (0, 0), (0, 0), (0, 0), (0, 0), (0, 0), (0, 0), (0, 0), (0, 0), (0, 0), (0, 0), (0, 0), (0, 0)] : Header), false, 6)

def cover_Meets.s0 (n : Nat) (k0 : ((List Cube) → Int → Option (List Cube))) (out : (List Cube)) (v10 : (List Cube)) (v11 : Int) (v12 : Int) (c_1 : Cube) : Option (List Cube) :=
  bif decide (v12 < v11) then
    bif inRange v12 (List.length v10) then
    let y0 : Cube := List.replicate 24 ((0, 0), 0, 0)
    let y1 : Cube := List.getD v10 (Int.toNat v12) y0
    obind (cube_Meet n c_1 y1) fun (r92 : (Cube × Bool)) =>
    bif r92.2 then
      bif decide ((List.length out + List.length ([y1] : (List Cube))) * 768 ≤ 140737488355328) then
      k0 (out ++ ([y1] : (List Cube))) (IntKind.wrap .i64 (v12 + 1))
      else none
    else
    k0 out (IntKind.wrap .i64 (v12 + 1))
    else none
  else
  some out

def cover_Meets.l0 (n : Nat) (v10 : (List Cube)) (v11 : Int) (c_1 : Cube) : Nat → (List Cube) → Int → Option (List Cube)
  | 0, _, _ => none
  | m + 1, out, v12 => cover_Meets.s0 n (fun out' v12' => cover_Meets.l0 n v10 v11 c_1 m out' v12') out v10 v11 v12 c_1

def cover_Meets.s (n : Nat) (k0 : ((List Cube) → (List Cube) → Int → Int → Cube → Option (List Cube))) (c : Cube) (l : (List Cube)) : Option (List Cube) :=
  k0 ([] : (List Cube)) l ((List.length l : Nat) : Int) 0 c

def cover_Meets (n : Nat) (c : Cube) (l : (List Cube)) : Option (List Cube) := cover_Meets.s n (fun out v10 v11 v12 c_1 => cover_Meets.l0 n v10 v11 c_1 n out v12) c l

def cube_Size.s0 (n : Nat) (k0 : (Int → Int → Option Int)) (n3 : Int) (v6 : Cube) (v7 : Int) : Option Int :=
  bif decide (v7 < 24) then
    bif inRange v7 24 then
    obind (some (wide_Many (List.getD v6 (Int.toNat v7) ((0, 0), 0, 0)).2)) fun (r94 : Int) =>
    k0 (IntKind.wrap .i64 (n3 + r94)) (IntKind.wrap .i64 (v7 + 1))
    else none
  else
  some n3

def cube_Size.l0 (n : Nat) (v6 : Cube) : Nat → Int → Int → Option Int
  | 0, _, _ => none
  | m + 1, n3, v7 => cube_Size.s0 n (fun n3' v7' => cube_Size.l0 n v6 m n3' v7') n3 v6 v7

def cube_Size.s (n : Nat) (k0 : (Int → Cube → Int → Option Int)) (c : Cube) : Option Int :=
  k0 0 c 0

def cube_Size (n : Nat) (c : Cube) : Option Int := cube_Size.s n (fun n3 v6 v7 => cube_Size.l0 n v6 n n3 v7) c

def cover_Bound.s0 (n : Nat) (k0 : (Int → Int → Option Int)) (n6 : Int) (v16 : (List Cube)) (v17 : Int) (v18 : Int) : Option Int :=
  bif decide (v18 < v17) then
    bif inRange v18 (List.length v16) then
    obind (cube_Size n (List.getD v16 (Int.toNat v18) (List.replicate 24 ((0, 0), 0, 0)))) fun (r95 : Int) =>
    k0 (minI (IntKind.wrap .i64 (n6 * (maxI r95 1))) 1099511627776) (IntKind.wrap .i64 (v18 + 1))
    else none
  else
  some n6

def cover_Bound.l0 (n : Nat) (v16 : (List Cube)) (v17 : Int) : Nat → Int → Int → Option Int
  | 0, _, _ => none
  | m + 1, n6, v18 => cover_Bound.s0 n (fun n6' v18' => cover_Bound.l0 n v16 v17 m n6' v18') n6 v16 v17 v18

def cover_Bound.s (n : Nat) (k0 : (Int → (List Cube) → Int → Int → Option Int)) (c : Cube) (l : (List Cube)) : Option Int :=
  obind (cover_Meets n c l) fun (r93 : (List Cube)) =>
  k0 (minI (IntKind.wrap .i64 (((List.length r93 : Nat) : Int) + 1)) 1099511627776) r93 ((List.length r93 : Nat) : Int) 0

def cover_Bound (n : Nat) (c : Cube) (l : (List Cube)) : Option Int := cover_Bound.s n (fun n6 v16 v17 v18 => cover_Bound.l0 n v16 v17 n n6 v18) c l

def shadow_Bound.s0 (n : Nat) (k0 : (Int → Int → Option Int)) (all : (List Cube)) (n4 : Int) (v9 : (List Cube)) (v10 : Int) (v11 : Int) : Option Int :=
  bif decide (v11 < v10) then
    bif inRange v11 (List.length v9) then
    bif ((decide (0 ≤ v11)) && (decide (v11 ≤ ((List.length all : Nat) : Int)))) then
    obind (cover_Bound n (List.getD v9 (Int.toNat v11) (List.replicate 24 ((0, 0), 0, 0))) (sub all 0 (Int.toNat v11))) fun (r96 : Int) =>
    k0 (maxI n4 r96) (IntKind.wrap .i64 (v11 + 1))
    else none
    else none
  else
  some n4

def shadow_Bound.l0 (n : Nat) (all : (List Cube)) (v9 : (List Cube)) (v10 : Int) : Nat → Int → Int → Option Int
  | 0, _, _ => none
  | m + 1, n4, v11 => shadow_Bound.s0 n (fun n4' v11' => shadow_Bound.l0 n all v9 v10 m n4' v11') all n4 v9 v10 v11

def shadow_Bound.s (n : Nat) (k0 : ((List Cube) → Int → (List Cube) → Int → Int → Option Int)) (l : (List Rule)) : Option Int :=
  obind (shadow_Cubes n l) fun (r91 : (List Cube)) =>
  k0 r91 0 r91 ((List.length r91 : Nat) : Int) 0

def shadow_Bound (n : Nat) (l : (List Rule)) : Option Int := shadow_Bound.s n (fun all n4 v9 v10 v11 => shadow_Bound.l0 n all v9 v10 n n4 v11) l

def law34_awake (n : Nat) : Option Bool :=
  let y0 : Cube := List.replicate 24 ((0, 0), 0, 0)
  let y1 : Cube := List.replicate 24 ((0, 0), 0, 0)
  obind (shadow_Drop n ([(([((0, 0), 0, 1), ((0, 0), 0, 0), ((0, 0), 0, 0), ((0, 0), 0, 0), ((0, 0), 0, 0), ((0, 0), 0, 0), ((0, 0), 0, 0), ((0, 0), 0, 0), ((0, 0), 0, 0), ((0, 0), 0, 0), ((0, 0), 0, 0), ((0, 0), 0, 0), ((0, 0), 0, 0), ((0, 0), 0, 0), ((0, 0), 0, 0), ((0, 0), 0, 0), ((0, 0), 0, 0), ((0, 0), 0, 0), ((0, 0), 0, 0), ((0, 0), 0, 0), ((0, 0), 0, 0), ((0, 0), 0, 0), ((0, 0), 0, 0), ((0, 0), 0, 0)] : Cube), ([] : (List Atom))), (y0, ([] : (List Atom))), (y1, ([] : (List Atom)))] : (List Rule)) 100) fun (r84 : ((List Rule) × Int)) =>
  obind (shadow_Drop n ([(([((0, 0), 0, 1), ((0, 0), 0, 0), ((0, 0), 0, 0), ((0, 0), 0, 0), ((0, 0), 0, 0), ((0, 0), 0, 0), ((0, 0), 0, 0), ((0, 0), 0, 0), ((0, 0), 0, 0), ((0, 0), 0, 0), ((0, 0), 0, 0), ((0, 0), 0, 0), ((0, 0), 0, 0), ((0, 0), 0, 0), ((0, 0), 0, 0), ((0, 0), 0, 0), ((0, 0), 0, 0), ((0, 0), 0, 0), ((0, 0), 0, 0), ((0, 0), 0, 0), ((0, 0), 0, 0), ((0, 0), 0, 0), ((0, 0), 0, 0), ((0, 0), 0, 0)] : Cube), ([] : (List Atom))), (y0, ([] : (List Atom))), (y1, ([] : (List Atom)))] : (List Rule)) 1) fun (r85 : ((List Rule) × Int)) =>
  obind (shadow_Look n ([(([((0, 0), 0, 1), ((0, 0), 0, 0), ((0, 0), 0, 0), ((0, 0), 0, 0), ((0, 0), 0, 0), ((0, 0), 0, 0), ((0, 0), 0, 0), ((0, 0), 0, 0), ((0, 0), 0, 0), ((0, 0), 0, 0), ((0, 0), 0, 0), ((0, 0), 0, 0), ((0, 0), 0, 0), ((0, 0), 0, 0), ((0, 0), 0, 0), ((0, 0), 0, 0), ((0, 0), 0, 0), ((0, 0), 0, 0), ((0, 0), 0, 0), ((0, 0), 0, 0), ((0, 0), 0, 0), ((0, 0), 0, 0), ((0, 0), 0, 0), ((0, 0), 0, 0)] : Cube), ([] : (List Atom))), (y0, ([] : (List Atom))), (y1, ([] : (List Atom)))] : (List Rule)) 1 100) fun (r88 : (Header × Bool × Int)) =>
  obind (shadow_Look n ([(([((0, 0), 0, 1), ((0, 0), 0, 0), ((0, 0), 0, 0), ((0, 0), 0, 0), ((0, 0), 0, 0), ((0, 0), 0, 0), ((0, 0), 0, 0), ((0, 0), 0, 0), ((0, 0), 0, 0), ((0, 0), 0, 0), ((0, 0), 0, 0), ((0, 0), 0, 0), ((0, 0), 0, 0), ((0, 0), 0, 0), ((0, 0), 0, 0), ((0, 0), 0, 0), ((0, 0), 0, 0), ((0, 0), 0, 0), ((0, 0), 0, 0), ((0, 0), 0, 0), ((0, 0), 0, 0), ((0, 0), 0, 0), ((0, 0), 0, 0), ((0, 0), 0, 0)] : Cube), ([] : (List Atom))), (y0, ([] : (List Atom))), (y1, ([] : (List Atom)))] : (List Rule)) 2 100) fun (r89 : (Header × Bool × Int)) =>
  obind (shadow_Look n ([(([((0, 0), 0, 1), ((0, 0), 0, 0), ((0, 0), 0, 0), ((0, 0), 0, 0), ((0, 0), 0, 0), ((0, 0), 0, 0), ((0, 0), 0, 0), ((0, 0), 0, 0), ((0, 0), 0, 0), ((0, 0), 0, 0), ((0, 0), 0, 0), ((0, 0), 0, 0), ((0, 0), 0, 0), ((0, 0), 0, 0), ((0, 0), 0, 0), ((0, 0), 0, 0), ((0, 0), 0, 0), ((0, 0), 0, 0), ((0, 0), 0, 0), ((0, 0), 0, 0), ((0, 0), 0, 0), ((0, 0), 0, 0), ((0, 0), 0, 0), ((0, 0), 0, 0)] : Cube), ([] : (List Atom))), (y0, ([] : (List Atom))), (y1, ([] : (List Atom)))] : (List Rule)) 3 100) fun (r90 : (Header × Bool × Int)) =>
  bif ((((List.length r84.1 : Nat) : Int) == 2) == true) then
    bif ((r84.2 == 0) == true) then
      bif ((r85.2 == 5) == true) then
        bif (r88.2.1 == true) then
          bif ((r88.2.2 == 0) == true) then
            bif (((List.getD r88.1 0 (0, 0)).2 == 1) == true) then
              bif ((!r89.2.1) == true) then
                bif ((r90.2.2 == 6) == true) then
                  obind (shadow_Bound n ([(([((0, 0), 0, 1), ((0, 0), 0, 0), ((0, 0), 0, 0), ((0, 0), 0, 0), ((0, 0), 0, 0), ((0, 0), 0, 0), ((0, 0), 0, 0), ((0, 0), 0, 0), ((0, 0), 0, 0), ((0, 0), 0, 0), ((0, 0), 0, 0), ((0, 0), 0, 0), ((0, 0), 0, 0), ((0, 0), 0, 0), ((0, 0), 0, 0), ((0, 0), 0, 0), ((0, 0), 0, 0), ((0, 0), 0, 0), ((0, 0), 0, 0), ((0, 0), 0, 0), ((0, 0), 0, 0), ((0, 0), 0, 0), ((0, 0), 0, 0), ((0, 0), 0, 0)] : Cube), ([] : (List Atom))), (y0, ([] : (List Atom))), (y1, ([] : (List Atom)))] : (List Rule))) fun (r97 : Int) =>
                  bif ((r97 == 3) == true) then
                    obind (shadow_Cubes n ([(([((0, 0), 0, 1), ((0, 0), 0, 0), ((0, 0), 0, 0), ((0, 0), 0, 0), ((0, 0), 0, 0), ((0, 0), 0, 0), ((0, 0), 0, 0), ((0, 0), 0, 0), ((0, 0), 0, 0), ((0, 0), 0, 0), ((0, 0), 0, 0), ((0, 0), 0, 0), ((0, 0), 0, 0), ((0, 0), 0, 0), ((0, 0), 0, 0), ((0, 0), 0, 0), ((0, 0), 0, 0), ((0, 0), 0, 0), ((0, 0), 0, 0), ((0, 0), 0, 0), ((0, 0), 0, 0), ((0, 0), 0, 0), ((0, 0), 0, 0), ((0, 0), 0, 0)] : Cube), ([] : (List Atom))), (y0, ([] : (List Atom))), (y1, ([] : (List Atom)))] : (List Rule))) fun (r98 : (List Cube)) =>
                    some (((List.length r98 : Nat) : Int) == 3)
                  else
                  some false
                else
                some false
              else
              some false
            else
            some false
          else
          some false
        else
        some false
      else
      some false
    else
    some false
  else
  some false

def law34_awake.τs : List Ty := []

def ref02_Less (a : Wide) (b : Wide) : Wide :=
  (bitsI .andNot .u64 a.1 b.1, bitsI .andNot .u64 a.2 b.2)

def ref05_Within (a : Tern) (b : Tern) : Bool :=
  let r102 : Wide := ref02_Less b.2 a.2
  let r103 : Bool := ref02_Zero r102
  bif (r103 == true) then
    let r104 : Wide := ref02_Xor a.1 b.1
    let r105 : Wide := ref02_And r104 b.2
    let r106 : Bool := ref02_Zero r105
    r106
  else
  false
def ref05_Within.o (a : Tern) (b : Tern) : Option Bool :=
  obind (some (ref02_Less b.2 a.2)) fun (r102 : Wide) =>
  obind (some (ref02_Zero r102)) fun (r103 : Bool) =>
  bif (r103 == true) then
    obind (some (ref02_Xor a.1 b.1)) fun (r104 : Wide) =>
    obind (some (ref02_And r104 b.2)) fun (r105 : Wide) =>
    obind (some (ref02_Zero r105)) fun (r106 : Bool) =>
    some r106
  else
  some false
theorem ref05_Within.o_eq (a : Tern) (b : Tern) : ref05_Within.o a b = some (ref05_Within a b) := by simp only [ref05_Within.o, ref05_Within, cond_some, obind_some]

def ref06_Within.s0 (n : Nat) (k0 : (Int → Option Bool)) (f : Int) (a_1 : Cube) (b_1 : Cube) : Option Bool :=
  bif decide (f < 24) then
    bif inRange f 24 then
    bif inRange f 24 then
    obind (some (ref05_Within (List.getD a_1 (Int.toNat f) ((0, 0), 0, 0)) (List.getD b_1 (Int.toNat f) ((0, 0), 0, 0)))) fun (r107 : Bool) =>
    bif !r107 then
      some false
    else
    k0 (IntKind.wrap .i64 (f + 1))
    else none
    else none
  else
  some true

def ref06_Within.l0 (n : Nat) (a_1 : Cube) (b_1 : Cube) : Nat → Int → Option Bool
  | 0, _ => none
  | m + 1, f => ref06_Within.s0 n (fun f' => ref06_Within.l0 n a_1 b_1 m f') f a_1 b_1

def ref06_Within.s (n : Nat) (k0 : (Int → Cube → Cube → Option Bool)) (a : Cube) (b : Cube) : Option Bool :=
  k0 0 a b

def ref06_Within (n : Nat) (a : Cube) (b : Cube) : Option Bool := ref06_Within.s n (fun f a_1 b_1 => ref06_Within.l0 n a_1 b_1 n f) a b

def ref06_Pick.s0 (n : Nat) (k0 : (Int → Header → Option Header)) (f : Int) (c_1 : Cube) (v2 : Header) (h : Header) : Option Header :=
  bif decide (f < 24) then
    bif inRange f 24 then
    obind (some (ref05_Clean (List.getD c_1 (Int.toNat f) ((0, 0), 0, 0)))) fun (r110 : Tern) =>
    bif inRange f 24 then
    k0 (IntKind.wrap .i64 (f + 1)) (List.set h (Int.toNat f) r110.1)
    else none
    else none
  else
  some h

def ref06_Pick.l0 (n : Nat) (c_1 : Cube) (v2 : Header) : Nat → Int → Header → Option Header
  | 0, _, _ => none
  | m + 1, f, h => ref06_Pick.s0 n (fun f' h' => ref06_Pick.l0 n c_1 v2 m f' h') f c_1 v2 h

def ref06_Pick.s (n : Nat) (k0 : (Int → Cube → Header → Header → Option Header)) (c : Cube) : Option Header :=
  k0 0 c (List.replicate 24 (0, 0)) ([(0, 0), (0, 0), (0, 0), (0, 0), (0, 0), (0, 0), (0, 0), (0, 0), (0, 0), (0, 0), (0, 0), (0, 0), (0, 0), (0, 0), (0, 0), (0, 0), (0, 0), (0, 0), (0, 0), (0, 0), (0, 0), (0, 0), (0, 0), (0, 0)] : Header)

def ref06_Pick (n : Nat) (c : Cube) : Option Header := ref06_Pick.s n (fun f c_1 v2 h => ref06_Pick.l0 n c_1 v2 n f h) c

def ref06_Clean.s0 (n : Nat) (k0 : (Int → Cube → Option Cube)) (f : Int) (c_1 : Cube) (v2 : Cube) : Option Cube :=
  bif decide (f < 24) then
    bif inRange f 24 then
    obind (some (ref05_Clean (List.getD c_1 (Int.toNat f) ((0, 0), 0, 0)))) fun (r112 : Tern) =>
    bif inRange f 24 then
    k0 (IntKind.wrap .i64 (f + 1)) (List.set c_1 (Int.toNat f) r112)
    else none
    else none
  else
  some c_1

def ref06_Clean.l0 (n : Nat) (v2 : Cube) : Nat → Int → Cube → Option Cube
  | 0, _, _ => none
  | m + 1, f, c_1 => ref06_Clean.s0 n (fun f' c_1' => ref06_Clean.l0 n v2 m f' c_1') f c_1 v2

def ref06_Clean.s (n : Nat) (k0 : (Int → Cube → Cube → Option Cube)) (c : Cube) : Option Cube :=
  k0 0 c (List.replicate 24 ((0, 0), 0, 0))

def ref06_Clean (n : Nat) (c : Cube) : Option Cube := ref06_Clean.s n (fun f c_1 v2 => ref06_Clean.l0 n v2 n f c_1) c

def ref05_Bits.s0 (n : Nat) (k0 : ((List Int) → Int → Option (List Int))) (out : (List Int)) (i : Int) (a_1 : Tern) (b_1 : Tern) : Option (List Int) :=
  bif decide (i ≥ 0) then
    obind (ref02_Has b_1.2 i) fun (r115 : Bool) =>
    bif (r115 == true) then
      obind (ref02_Has a_1.2 i) fun (r116 : Bool) =>
      bif !r116 then
        bif decide ((List.length out + List.length ([i] : (List Int))) * 8 ≤ 140737488355328) then
        k0 (out ++ ([i] : (List Int))) (IntKind.wrap .i64 (i - 1))
        else none
      else
      k0 out (IntKind.wrap .i64 (i - 1))
    else
    k0 out (IntKind.wrap .i64 (i - 1))
  else
  some out

def ref05_Bits.l0 (n : Nat) (a_1 : Tern) (b_1 : Tern) : Nat → (List Int) → Int → Option (List Int)
  | 0, _, _ => none
  | m + 1, out, i => ref05_Bits.s0 n (fun out' i' => ref05_Bits.l0 n a_1 b_1 m out' i') out i a_1 b_1

def ref05_Bits.s (n : Nat) (k0 : ((List Int) → Int → Tern → Tern → Option (List Int))) (a : Tern) (b : Tern) : Option (List Int) :=
  k0 ([] : (List Int)) 127 a b

def ref05_Bits (n : Nat) (a : Tern) (b : Tern) : Option (List Int) := ref05_Bits.s n (fun out i a_1 b_1 => ref05_Bits.l0 n a_1 b_1 n out i) a b

def ref05_Fix (t : Tern) (i : Int) (on : Bool) : Option Tern :=
  obind (some (ref05_Clean t)) fun (r119 : Tern) =>
  obind (ref02_Bit i) fun (r120 : Wide) =>
  obind (some (ref02_Or r119.2 r120)) fun (r121 : Wide) =>
  obind (some (ref02_Less r119.1 r120)) fun (r122 : Wide) =>
  bif on then
    obind (some (ref02_Or r122 r120)) fun (r123 : Wide) =>
    some (r123, r121)
  else
  some (r122, r121)

def ref07_List.s1 (n : Nat) (k1 : ((List Cube) → Int → Cube → Option (List Cube))) (k0 : ((List Cube) → Int → Cube → Cube → Cube → Option (List Cube))) (out_1 : (List Cube)) (f_1 : Int) (l : (List Int)) (i : Int) (a_2 : Cube) (b_2 : Cube) (left_1 : Cube) : Option (List Cube) :=
  bif decide (i < ((List.length l : Nat) : Int)) then
    bif inRange f_1 24 then
    bif inRange i (List.length l) then
    obind (ref02_Has (List.getD b_2 (Int.toNat f_1) ((0, 0), 0, 0)).1 (List.getD l (Int.toNat i) 0)) fun (r118 : Bool) =>
    bif inRange f_1 24 then
    bif inRange i (List.length l) then
    obind (ref05_Fix (List.getD left_1 (Int.toNat f_1) ((0, 0), 0, 0)) (List.getD l (Int.toNat i) 0) (!r118)) fun (r124 : Tern) =>
    bif inRange f_1 24 then
    let y0 : Cube := List.set left_1 (Int.toNat f_1) r124
    bif decide ((List.length out_1 + List.length ([y0] : (List Cube))) * 768 ≤ 140737488355328) then
    bif inRange f_1 24 then
    bif inRange i (List.length l) then
    obind (ref05_Fix (List.getD left_1 (Int.toNat f_1) ((0, 0), 0, 0)) (List.getD l (Int.toNat i) 0) r118) fun (r125 : Tern) =>
    bif inRange f_1 24 then
    k1 (out_1 ++ ([y0] : (List Cube))) (IntKind.wrap .i64 (i + 1)) (List.set left_1 (Int.toNat f_1) r125)
    else none
    else none
    else none
    else none
    else none
    else none
    else none
    else none
    else none
  else
  k0 out_1 (IntKind.wrap .i64 (f_1 + 1)) a_2 b_2 left_1

def ref07_List.l1 (n : Nat) (f_1 : Int) (l : (List Int)) (a_2 : Cube) (b_2 : Cube) (k0 : ((List Cube) → Int → Cube → Cube → Cube → Option (List Cube))) : Nat → (List Cube) → Int → Cube → Option (List Cube)
  | 0, _, _, _ => none
  | m + 1, out_1, i, left_1 => ref07_List.s1 n (fun out_1' i' left_1' => ref07_List.l1 n f_1 l a_2 b_2 k0 m out_1' i' left_1') k0 out_1 f_1 l i a_2 b_2 left_1

def ref07_List.s0 (n : Nat) (k1 : ((List Cube) → Int → (List Int) → Int → Cube → Cube → Cube → Option (List Cube))) (out : (List Cube)) (f : Int) (a_1 : Cube) (b_1 : Cube) (left : Cube) : Option (List Cube) :=
  bif decide (f < 24) then
    bif inRange f 24 then
    bif inRange f 24 then
    obind (ref05_Bits n (List.getD a_1 (Int.toNat f) ((0, 0), 0, 0)) (List.getD b_1 (Int.toNat f) ((0, 0), 0, 0))) fun (r117 : (List Int)) =>
    k1 out f r117 0 a_1 b_1 left
    else none
    else none
  else
  some out

def ref07_List.l0 (n : Nat) (a_1 : Cube) (b_1 : Cube) : Nat → (List Cube) → Int → Cube → Option (List Cube)
  | 0, _, _, _ => none
  | m + 1, out, f, left => ref07_List.s0 n (fun out_1' f_1' l' i' a_2' b_2' left_1' => ref07_List.l1 n f_1' l' a_2' b_2' (fun out'' f'' a_1'' b_1'' left'' => ref07_List.l0 n a_1'' b_1'' m out'' f'' left'') n out_1' i' left_1') out f a_1 b_1 left

def ref07_List.s (n : Nat) (k0 : ((List Cube) → Int → Cube → Cube → Cube → Option (List Cube))) (a : Cube) (b : Cube) : Option (List Cube) :=
  obind (ref06_Clean n a) fun (r113 : Cube) =>
  obind (ref06_Meet n a b) fun (r114 : (Cube × Bool)) =>
  bif !r114.2 then
    some ([r113] : (List Cube))
  else
  k0 ([] : (List Cube)) 0 a b r113

def ref07_List (n : Nat) (a : Cube) (b : Cube) : Option (List Cube) := ref07_List.s n (fun out f a_1 b_1 left => ref07_List.l0 n a_1 b_1 n out f left) a b

def ref08_look.s1 (n : Nat) (rec : Cube → (List Cube) → Int → Bool → Option (Header × Bool × Int)) (k1 : (Int → Int → Option (Header × Bool × Int))) (l_2 : (List Cube)) (left_2 : Int) (free_2 : Bool) (first_1 : Int) (parts : (List Cube)) (i_1 : Int) (v8_1 : Header) : Option (Header × Bool × Int) :=
  bif decide (i_1 < ((List.length parts : Nat) : Int)) then
    bif inRange i_1 (List.length parts) then
    bif ((decide (0 ≤ (IntKind.wrap .i64 (first_1 + 1)))) && (decide ((IntKind.wrap .i64 (first_1 + 1)) ≤ ((List.length l_2 : Nat) : Int)))) then
    obind (rec (List.getD parts (Int.toNat i_1) (List.replicate 24 ((0, 0), 0, 0))) (List.drop (Int.toNat (IntKind.wrap .i64 (first_1 + 1))) l_2) left_2 free_2) fun (r127 : (Header × Bool × Int)) =>
    bif (r127.2.1 == false) then
      bif decide (r127.2.2 < 0) then
        some (r127.1, r127.2.1, r127.2.2)
      else
      k1 r127.2.2 (IntKind.wrap .i64 (i_1 + 1))
    else
    some (r127.1, r127.2.1, r127.2.2)
    else none
    else none
  else
  some (([(0, 0), (0, 0), (0, 0), (0, 0), (0, 0), (0, 0), (0, 0), (0, 0), (0, 0), (0, 0), (0, 0), (0, 0), (0, 0), (0, 0), (0, 0), (0, 0), (0, 0), (0, 0), (0, 0), (0, 0), (0, 0), (0, 0), (0, 0), (0, 0)] : Header), false, left_2)

def ref08_look.l1 (n : Nat) (rec : Cube → (List Cube) → Int → Bool → Option (Header × Bool × Int)) (l_2 : (List Cube)) (free_2 : Bool) (first_1 : Int) (parts : (List Cube)) (v8_1 : Header) : Nat → Int → Int → Option (Header × Bool × Int)
  | 0, _, _ => none
  | m + 1, left_2, i_1 => ref08_look.s1 n rec (fun left_2' i_1' => ref08_look.l1 n rec l_2 free_2 first_1 parts v8_1 m left_2' i_1') l_2 left_2 free_2 first_1 parts i_1 v8_1

def ref08_look.s0 (n : Nat) (rec : Cube → (List Cube) → Int → Bool → Option (Header × Bool × Int)) (k0 : (Int → Int → Option (Header × Bool × Int))) (k1 : ((List Cube) → Int → Bool → Int → (List Cube) → Int → Header → Option (Header × Bool × Int))) (l_1 : (List Cube)) (left_1 : Int) (free_1 : Bool) (first : Int) (i : Int) (c_1 : Cube) (v8 : Header) : Option (Header × Bool × Int) :=
  bif decide (i < ((List.length l_1 : Nat) : Int)) then
    bif inRange i (List.length l_1) then
    obind (ref06_Within n c_1 (List.getD l_1 (Int.toNat i) (List.replicate 24 ((0, 0), 0, 0)))) fun (r108 : Bool) =>
    bif r108 then
      some (([(0, 0), (0, 0), (0, 0), (0, 0), (0, 0), (0, 0), (0, 0), (0, 0), (0, 0), (0, 0), (0, 0), (0, 0), (0, 0), (0, 0), (0, 0), (0, 0), (0, 0), (0, 0), (0, 0), (0, 0), (0, 0), (0, 0), (0, 0), (0, 0)] : Header), false, left_1)
    else
    bif inRange i (List.length l_1) then
    obind (ref06_Meet n c_1 (List.getD l_1 (Int.toNat i) (List.replicate 24 ((0, 0), 0, 0)))) fun (r109 : (Cube × Bool)) =>
    bif (r109.2 == true) then
      bif decide (first < 0) then
        k0 i (IntKind.wrap .i64 (i + 1))
      else
      k0 first (IntKind.wrap .i64 (i + 1))
    else
    k0 first (IntKind.wrap .i64 (i + 1))
    else none
    else none
  else
  bif decide (first < 0) then
    obind (ref06_Pick n c_1) fun (r111 : Header) =>
    some (r111, true, left_1)
  else
  bif inRange first (List.length l_1) then
  obind (ref07_List n c_1 (List.getD l_1 (Int.toNat first) (List.replicate 24 ((0, 0), 0, 0)))) fun (r126 : (List Cube)) =>
  k1 l_1 left_1 free_1 first r126 0 v8
  else none

def ref08_look.l0 (n : Nat) (rec : Cube → (List Cube) → Int → Bool → Option (Header × Bool × Int)) (l_1 : (List Cube)) (left_1 : Int) (free_1 : Bool) (c_1 : Cube) (v8 : Header) : Nat → Int → Int → Option (Header × Bool × Int)
  | 0, _, _ => none
  | m + 1, first, i => ref08_look.s0 n rec (fun first' i' => ref08_look.l0 n rec l_1 left_1 free_1 c_1 v8 m first' i') (fun l_2' left_2' free_2' first_1' parts' i_1' v8_1' => ref08_look.l1 n rec l_2' free_2' first_1' parts' v8_1' n left_2' i_1') l_1 left_1 free_1 first i c_1 v8

def ref08_look.s (n : Nat) (rec : Cube → (List Cube) → Int → Bool → Option (Header × Bool × Int)) (k0 : ((List Cube) → Int → Bool → Int → Int → Cube → Header → Option (Header × Bool × Int))) (c : Cube) (l : (List Cube)) (left : Int) (free : Bool) : Option (Header × Bool × Int) :=
  let y0 : Header := List.replicate 24 (0, 0)
  bif ((!free) == true) then
    bif decide (left < 1) then
      some (([(0, 0), (0, 0), (0, 0), (0, 0), (0, 0), (0, 0), (0, 0), (0, 0), (0, 0), (0, 0), (0, 0), (0, 0), (0, 0), (0, 0), (0, 0), (0, 0), (0, 0), (0, 0), (0, 0), (0, 0), (0, 0), (0, 0), (0, 0), (0, 0)] : Header), false, (-1))
    else
    bif !free then
      k0 l (IntKind.wrap .i64 (left - 1)) free (-1) 0 c y0
    else
    k0 l left free (-1) 0 c y0
  else
  bif !free then
    k0 l (IntKind.wrap .i64 (left - 1)) free (-1) 0 c y0
  else
  k0 l left free (-1) 0 c y0

def ref08_look (n : Nat) : Nat → Cube → (List Cube) → Int → Bool → Option (Header × Bool × Int)
  | 0, _, _, _, _ => none
  | k + 1, c, l, left, free => ref08_look.s n (ref08_look n k) (fun l_1 left_1 free_1 first i c_1 v8 => ref08_look.l0 n (ref08_look n k) l_1 left_1 free_1 c_1 v8 n first i) c l left free

def ref08_Look (n : Nat) (c : Cube) (l : (List Cube)) (most : Int) : Option (Header × Bool × Int) :=
  obind (ref08_look n n c l (maxI most 0) (decide (most ≥ 1099511627776))) fun (r128 : (Header × Bool × Int)) =>
  bif decide (r128.2.2 < 0) then
    some (([(0, 0), (0, 0), (0, 0), (0, 0), (0, 0), (0, 0), (0, 0), (0, 0), (0, 0), (0, 0), (0, 0), (0, 0), (0, 0), (0, 0), (0, 0), (0, 0), (0, 0), (0, 0), (0, 0), (0, 0), (0, 0), (0, 0), (0, 0), (0, 0)] : Header), false, 5)
  else
  some (r128.1, r128.2.1, 0)

def ref34_Look (n : Nat) (l : (List Rule)) (i : Int) (most : Int) : Option (Header × Bool × Int) :=
  bif ((decide (i < 0)) == false) then
    bif decide (i ≥ ((List.length l : Nat) : Int)) then
      some (([(0, 0), (0, 0), (0, 0), (0, 0), (0, 0), (0, 0), (0, 0), (0, 0), (0, 0), (0, 0), (0, 0), (0, 0), (0, 0), (0, 0), (0, 0), (0, 0), (0, 0), (0, 0), (0, 0), (0, 0), (0, 0), (0, 0), (0, 0), (0, 0)] : Header), false, 6)
    else
    bif inRange i (List.length l) then
    bif ((decide (0 ≤ i)) && (decide (i ≤ ((List.length l : Nat) : Int)))) then
    obind (ref34_Cubes n (sub l 0 (Int.toNat i))) fun (r101 : (List Cube)) =>
    obind (ref08_Look n (List.getD l (Int.toNat i) (List.replicate 24 ((0, 0), 0, 0), ([] : (List Atom)))).1 r101 most) fun (r129 : (Header × Bool × Int)) =>
    some (r129.1, r129.2.1, r129.2.2)
    else none
    else none
  else
  some (([(0, 0), (0, 0), (0, 0), (0, 0), (0, 0), (0, 0), (0, 0), (0, 0), (0, 0), (0, 0), (0, 0), (0, 0), (0, 0), (0, 0), (0, 0), (0, 0), (0, 0), (0, 0), (0, 0), (0, 0), (0, 0), (0, 0), (0, 0), (0, 0)] : Header), false, 6)

def law34_ShadowLooks (n : Nat) (l : (List Rule)) (i : Int) (most : Int) : Option Bool :=
  obind (law34_light n l most) fun (r28 : Bool) =>
  bif !r28 then
    obind (law34_awake n) fun (r99 : Bool) =>
    some r99
  else
  obind (shadow_Look n l i most) fun (r100 : (Header × Bool × Int)) =>
  obind (ref34_Look n l i most) fun (r130 : (Header × Bool × Int)) =>
  bif ((beqT THeader r100.1 r130.1) == true) then
    bif ((r100.2.1 == r130.2.1) == true) then
      bif ((r100.2.2 == r130.2.2) == true) then
        obind (law34_awake n) fun (r131 : Bool) =>
        some r131
      else
      some false
    else
    some false
  else
  some false

def law34_ShadowLooks.τs : List Ty := [(.slc TRule), (.int .i64), (.int .i64)]

def law34_ShadowEnough (n : Nat) (l : (List Rule)) (more : Int) : Option Bool :=
  obind (shadow_Bound n l) fun (r132 : Int) =>
  obind (plain_Rules n l 12) fun (r133 : Bool) =>
  bif ((!r133) == false) then
    bif decide (r132 > 4096) then
      obind (law34_awake n) fun (r134 : Bool) =>
      some r134
    else
    obind (shadow_Drop n l (IntKind.wrap .i64 (r132 + (IntKind.wrap .i64 more)))) fun (r135 : ((List Rule) × Int)) =>
    bif ((r135.2 == 0) == true) then
      obind (law34_awake n) fun (r136 : Bool) =>
      some r136
    else
    some false
  else
  obind (law34_awake n) fun (r137 : Bool) =>
  some r137

def law34_ShadowEnough.τs : List Ty := [(.slc TRule), (.int .u16)]

def cube_Has.s0 (n : Nat) (k0 : (Int → Option Bool)) (v7 : Cube) (v8 : Int) (h_1 : Header) : Option Bool :=
  bif decide (v8 < 24) then
    bif inRange v8 24 then
    bif inRange v8 24 then
    obind (some (tern_Has (List.getD v7 (Int.toNat v8) ((0, 0), 0, 0)) (List.getD h_1 (Int.toNat v8) (0, 0)))) fun (r143 : Bool) =>
    bif !r143 then
      some false
    else
    k0 (IntKind.wrap .i64 (v8 + 1))
    else none
    else none
  else
  some true

def cube_Has.l0 (n : Nat) (v7 : Cube) (h_1 : Header) : Nat → Int → Option Bool
  | 0, _ => none
  | m + 1, v8 => cube_Has.s0 n (fun v8' => cube_Has.l0 n v7 h_1 m v8') v7 v8 h_1

def cube_Has.s (n : Nat) (k0 : (Cube → Int → Header → Option Bool)) (c : Cube) (h : Header) : Option Bool :=
  k0 c 0 h

def cube_Has (n : Nat) (c : Cube) (h : Header) : Option Bool := cube_Has.s n (fun v7 v8 h_1 => cube_Has.l0 n v7 h_1 n v8) c h

def law34_first_1 (n : Nat) (r : Rule) (c0 : Header) : Option Bool :=
  obind (cube_Has n r.1 c0) fun (r144 : Bool) =>
  some r144

def law34_first (n : Nat) (l : (List Rule)) (h : Header) : Option Int :=
  obind (slices_IndexFunc_Rule n l (fun (x145 : Rule) => law34_first_1 n x145 h)) fun (r146 : Int) =>
  some r146

def law34_first.τs : List Ty := [(.slc TRule), THeader]

def law34_ShadowHit.s0 (n : Nat) (k0 : (Int → Option Bool)) (l_1 : (List Rule)) (most_1 : Int) (k5 : (List Rule)) (v31 : Int) (v32 : Int) : Option Bool :=
  bif decide (v32 < v31) then
    obind (shadow_Look n k5 v32 most_1) fun (r142 : (Header × Bool × Int)) =>
    bif ((!r142.2.1) == false) then
      bif ((r142.2.2 != 0) == false) then
        obind (law34_first n k5 r142.1) fun (r147 : Int) =>
        bif (r147 != v32) then
          some false
        else
        k0 (IntKind.wrap .i64 (v32 + 1))
      else
      some false
    else
    some false
  else
  bif ((decide (((List.length k5 : Nat) : Int) ≤ ((List.length l_1 : Nat) : Int))) == true) then
    obind (law34_awake n) fun (r148 : Bool) =>
    some r148
  else
  some false

def law34_ShadowHit.l0 (n : Nat) (l_1 : (List Rule)) (most_1 : Int) (k5 : (List Rule)) (v31 : Int) : Nat → Int → Option Bool
  | 0, _ => none
  | m + 1, v32 => law34_ShadowHit.s0 n (fun v32' => law34_ShadowHit.l0 n l_1 most_1 k5 v31 m v32') l_1 most_1 k5 v31 v32

def law34_ShadowHit.s (n : Nat) (k0 : ((List Rule) → Int → (List Rule) → Int → Int → Option Bool)) (l : (List Rule)) (most : Int) : Option Bool :=
  obind (law34_light n l most) fun (r138 : Bool) =>
  bif !r138 then
    obind (law34_awake n) fun (r139 : Bool) =>
    some r139
  else
  obind (shadow_Drop n l most) fun (r140 : ((List Rule) × Int)) =>
  bif (r140.2 != 0) then
    bif ((((List.length r140.1 : Nat) : Int) == 0) == true) then
      obind (law34_awake n) fun (r141 : Bool) =>
      some r141
    else
    some false
  else
  k0 l most r140.1 ((List.length r140.1 : Nat) : Int) 0

def law34_ShadowHit (n : Nat) (l : (List Rule)) (most : Int) : Option Bool := law34_ShadowHit.s n (fun l_1 most_1 k5 v31 v32 => law34_ShadowHit.l0 n l_1 most_1 k5 v31 n v32) l most

def law34_ShadowHit.τs : List Ty := [(.slc TRule), (.int .i64)]

def slices_Equal_Atom.s0 (n : Nat) (k0 : (Int → Option Bool)) (s1_1 : (List Atom)) (s2_1 : (List Atom)) (v12 : Int) (v13 : Int) : Option Bool :=
  bif decide (v13 < v12) then
    bif inRange v13 (List.length s1_1) then
    bif inRange v13 (List.length s2_1) then
    bif !(beqT TAtom (List.getD s1_1 (Int.toNat v13) (List.replicate 24 ((0, 0), 0, 0), false, 0, 0)) (List.getD s2_1 (Int.toNat v13) (List.replicate 24 ((0, 0), 0, 0), false, 0, 0))) then
      some false
    else
    k0 (IntKind.wrap .i64 (v13 + 1))
    else none
    else none
  else
  some true

def slices_Equal_Atom.l0 (n : Nat) (s1_1 : (List Atom)) (s2_1 : (List Atom)) (v12 : Int) : Nat → Int → Option Bool
  | 0, _ => none
  | m + 1, v13 => slices_Equal_Atom.s0 n (fun v13' => slices_Equal_Atom.l0 n s1_1 s2_1 v12 m v13') s1_1 s2_1 v12 v13

def slices_Equal_Atom.s (n : Nat) (k0 : ((List Atom) → (List Atom) → Int → Int → Option Bool)) (s1 : (List Atom)) (s2 : (List Atom)) : Option Bool :=
  bif (((List.length s1 : Nat) : Int) != ((List.length s2 : Nat) : Int)) then
    some false
  else
  k0 s1 s2 ((List.length s1 : Nat) : Int) 0

def slices_Equal_Atom (n : Nat) (s1 : (List Atom)) (s2 : (List Atom)) : Option Bool := slices_Equal_Atom.s n (fun s1_1 s2_1 v12 v13 => slices_Equal_Atom.l0 n s1_1 s2_1 v12 n v13) s1 s2

def law34_same (n : Nat) (a : Rule) (b : Rule) : Option Bool :=
  bif ((beqT TCube a.1 b.1) == true) then
    obind (slices_Equal_Atom n a.2 b.2) fun (r156 : Bool) =>
    some r156
  else
  some false

def law34_same.τs : List Ty := [TRule, TRule]

def law34_ShadowSame (n : Nat) (l : (List Rule)) (most : Int) (h : Header) : Option Bool :=
  obind (law34_light n l most) fun (r149 : Bool) =>
  bif !r149 then
    obind (law34_awake n) fun (r150 : Bool) =>
    some r150
  else
  obind (shadow_Drop n l most) fun (r151 : ((List Rule) × Int)) =>
  bif (r151.2 != 0) then
    obind (law34_awake n) fun (r152 : Bool) =>
    some r152
  else
  obind (law34_first n l h) fun (r153 : Int) =>
  obind (law34_first n r151.1 h) fun (r154 : Int) =>
  bif ((decide (r153 < 0)) == false) then
    bif decide (r154 < 0) then
      bif ((r153 == r154) == true) then
        obind (law34_awake n) fun (r155 : Bool) =>
        some r155
      else
      some false
    else
    bif inRange r153 (List.length l) then
    bif inRange r154 (List.length r151.1) then
    obind (law34_same n (List.getD l (Int.toNat r153) (List.replicate 24 ((0, 0), 0, 0), ([] : (List Atom)))) (List.getD r151.1 (Int.toNat r154) (List.replicate 24 ((0, 0), 0, 0), ([] : (List Atom))))) fun (r157 : Bool) =>
    bif (r157 == true) then
      obind (law34_awake n) fun (r158 : Bool) =>
      some r158
    else
    some false
    else none
    else none
  else
  bif ((r153 == r154) == true) then
    obind (law34_awake n) fun (r159 : Bool) =>
    some r159
  else
  some false

def law34_ShadowSame.τs : List Ty := [(.slc TRule), (.int .i64), THeader]

def ref34_Drop.s0 (n : Nat) (k0 : ((List Rule) → Int → Option ((List Rule) × Int))) (l_1 : (List Rule)) (most_1 : Int) (out : (List Rule)) (i : Int) : Option ((List Rule) × Int) :=
  bif decide (i < ((List.length l_1 : Nat) : Int)) then
    bif inRange i (List.length l_1) then
    obind (ref34_Cubes n out) fun (r163 : (List Cube)) =>
    obind (ref08_Look n (List.getD l_1 (Int.toNat i) (List.replicate 24 ((0, 0), 0, 0), ([] : (List Atom)))).1 r163 most_1) fun (r164 : (Header × Bool × Int)) =>
    bif (r164.2.2 != 0) then
      some (([] : (List Rule)), 5)
    else
    bif r164.2.1 then
      bif inRange i (List.length l_1) then
      let y0 : Cube := List.replicate 24 ((0, 0), 0, 0)
      let y1 : Rule := List.getD l_1 (Int.toNat i) (y0, ([] : (List Atom)))
      bif decide ((List.length out + List.length ([y1] : (List Rule))) * 792 ≤ 140737488355328) then
      k0 (out ++ ([y1] : (List Rule))) (IntKind.wrap .i64 (i + 1))
      else none
      else none
    else
    k0 out (IntKind.wrap .i64 (i + 1))
    else none
  else
  some (out, 0)

def ref34_Drop.l0 (n : Nat) (l_1 : (List Rule)) (most_1 : Int) : Nat → (List Rule) → Int → Option ((List Rule) × Int)
  | 0, _, _ => none
  | m + 1, out, i => ref34_Drop.s0 n (fun out' i' => ref34_Drop.l0 n l_1 most_1 m out' i') l_1 most_1 out i

def ref34_Drop.s (n : Nat) (k0 : ((List Rule) → Int → (List Rule) → Int → Option ((List Rule) × Int))) (l : (List Rule)) (most : Int) : Option ((List Rule) × Int) :=
  k0 l most ([] : (List Rule)) 0

def ref34_Drop (n : Nat) (l : (List Rule)) (most : Int) : Option ((List Rule) × Int) := ref34_Drop.s n (fun l_1 most_1 out i => ref34_Drop.l0 n l_1 most_1 n out i) l most

def slices_EqualFunc_Rule.s0 (n : Nat) (k0 : (Int → Option Bool)) (s2_1 : (List Rule)) (eq_1 : ((Rule × Rule) → Option Bool)) (v15 : (List Rule)) (v16 : Int) (v17 : Int) : Option Bool :=
  bif decide (v17 < v16) then
    bif inRange v17 (List.length v15) then
    bif inRange v17 (List.length s2_1) then
    obind (eq_1 ((List.getD v15 (Int.toNat v17) (List.replicate 24 ((0, 0), 0, 0), ([] : (List Atom)))), (List.getD s2_1 (Int.toNat v17) (List.replicate 24 ((0, 0), 0, 0), ([] : (List Atom)))))) fun (r166 : Bool) =>
    bif !r166 then
      some false
    else
    k0 (IntKind.wrap .i64 (v17 + 1))
    else none
    else none
  else
  some true

def slices_EqualFunc_Rule.l0 (n : Nat) (s2_1 : (List Rule)) (eq_1 : ((Rule × Rule) → Option Bool)) (v15 : (List Rule)) (v16 : Int) : Nat → Int → Option Bool
  | 0, _ => none
  | m + 1, v17 => slices_EqualFunc_Rule.s0 n (fun v17' => slices_EqualFunc_Rule.l0 n s2_1 eq_1 v15 v16 m v17') s2_1 eq_1 v15 v16 v17

def slices_EqualFunc_Rule.s (n : Nat) (k0 : ((List Rule) → ((Rule × Rule) → Option Bool) → (List Rule) → Int → Int → Option Bool)) (s1 : (List Rule)) (s2 : (List Rule)) (eq : ((Rule × Rule) → Option Bool)) : Option Bool :=
  bif (((List.length s1 : Nat) : Int) != ((List.length s2 : Nat) : Int)) then
    some false
  else
  k0 s2 eq s1 ((List.length s1 : Nat) : Int) 0

def slices_EqualFunc_Rule (n : Nat) (s1 : (List Rule)) (s2 : (List Rule)) (eq : ((Rule × Rule) → Option Bool)) : Option Bool := slices_EqualFunc_Rule.s n (fun s2_1 eq_1 v15 v16 v17 => slices_EqualFunc_Rule.l0 n s2_1 eq_1 v15 v16 n v17) s1 s2 eq

def law34_same_c (n : Nat) (a : Rule) (b : Rule) : Option Bool :=
  bif ((beqT TCube a.1 b.1) == true) then
    obind (slices_Equal_Atom n a.2 b.2) fun (r167 : Bool) =>
    some r167
  else
  some false

def slices_Equal_Cube.s0 (n : Nat) (k0 : (Int → Option Bool)) (s1_1 : (List Cube)) (s2_1 : (List Cube)) (v12 : Int) (v13 : Int) : Option Bool :=
  bif decide (v13 < v12) then
    bif inRange v13 (List.length s1_1) then
    bif inRange v13 (List.length s2_1) then
    bif !(beqT TCube (List.getD s1_1 (Int.toNat v13) (List.replicate 24 ((0, 0), 0, 0))) (List.getD s2_1 (Int.toNat v13) (List.replicate 24 ((0, 0), 0, 0)))) then
      some false
    else
    k0 (IntKind.wrap .i64 (v13 + 1))
    else none
    else none
  else
  some true

def slices_Equal_Cube.l0 (n : Nat) (s1_1 : (List Cube)) (s2_1 : (List Cube)) (v12 : Int) : Nat → Int → Option Bool
  | 0, _ => none
  | m + 1, v13 => slices_Equal_Cube.s0 n (fun v13' => slices_Equal_Cube.l0 n s1_1 s2_1 v12 m v13') s1_1 s2_1 v12 v13

def slices_Equal_Cube.s (n : Nat) (k0 : ((List Cube) → (List Cube) → Int → Int → Option Bool)) (s1 : (List Cube)) (s2 : (List Cube)) : Option Bool :=
  bif (((List.length s1 : Nat) : Int) != ((List.length s2 : Nat) : Int)) then
    some false
  else
  k0 s1 s2 ((List.length s1 : Nat) : Int) 0

def slices_Equal_Cube (n : Nat) (s1 : (List Cube)) (s2 : (List Cube)) : Option Bool := slices_Equal_Cube.s n (fun s1_1 s2_1 v12 v13 => slices_Equal_Cube.l0 n s1_1 s2_1 v12 n v13) s1 s2

def law34_ShadowDrops (n : Nat) (l : (List Rule)) (most : Int) : Option Bool :=
  obind (law34_light n l most) fun (r160 : Bool) =>
  bif !r160 then
    obind (law34_awake n) fun (r161 : Bool) =>
    some r161
  else
  obind (shadow_Drop n l most) fun (r162 : ((List Rule) × Int)) =>
  obind (ref34_Drop n l most) fun (r165 : ((List Rule) × Int)) =>
  obind (slices_EqualFunc_Rule n r162.1 r165.1 (fun (x168 : (Rule × Rule)) => law34_same_c n x168.1 x168.2)) fun (r169 : Bool) =>
  bif (r169 == true) then
    bif ((r162.2 == r165.2) == true) then
      obind (shadow_Bound n l) fun (r170 : Int) =>
      obind (ref34_Bound n l) fun (r171 : Int) =>
      bif ((r170 == r171) == true) then
        obind (shadow_Cubes n l) fun (r172 : (List Cube)) =>
        obind (ref34_Cubes n l) fun (r173 : (List Cube)) =>
        obind (slices_Equal_Cube n r172 r173) fun (r174 : Bool) =>
        bif (r174 == true) then
          obind (law34_awake n) fun (r175 : Bool) =>
          some r175
        else
        some false
      else
      some false
    else
    some false
  else
  some false

def law34_ShadowDrops.τs : List Ty := [(.slc TRule), (.int .i64)]

def law37_few (n : Nat) (a : Flat) (b : Flat) : Option Bool :=
  obind (plain_Rules n a.1 8) fun (r176 : Bool) =>
  bif (r176 == true) then
    obind (plain_Rules n b.1 8) fun (r177 : Bool) =>
    some r177
  else
  some false

def law37_few.τs : List Ty := [TFlat, TFlat]

def ref37_Meet (n : Nat) (a : Flat) (b : Flat) (i : Int) (j : Int) : Option (Cube × Bool) :=
  bif ((decide (i < 0)) == false) then
    bif ((decide (i ≥ ((List.length a.1 : Nat) : Int))) == false) then
      bif ((decide (j < 0)) == false) then
        bif decide (j ≥ ((List.length b.1 : Nat) : Int)) then
          some (([((0, 0), 0, 0), ((0, 0), 0, 0), ((0, 0), 0, 0), ((0, 0), 0, 0), ((0, 0), 0, 0), ((0, 0), 0, 0), ((0, 0), 0, 0), ((0, 0), 0, 0), ((0, 0), 0, 0), ((0, 0), 0, 0), ((0, 0), 0, 0), ((0, 0), 0, 0), ((0, 0), 0, 0), ((0, 0), 0, 0), ((0, 0), 0, 0), ((0, 0), 0, 0), ((0, 0), 0, 0), ((0, 0), 0, 0), ((0, 0), 0, 0), ((0, 0), 0, 0), ((0, 0), 0, 0), ((0, 0), 0, 0), ((0, 0), 0, 0), ((0, 0), 0, 0)] : Cube), false)
        else
        bif inRange i (List.length a.1) then
        bif inRange j (List.length b.1) then
        obind (ref06_Meet n (List.getD a.1 (Int.toNat i) (List.replicate 24 ((0, 0), 0, 0), ([] : (List Atom)))).1 (List.getD b.1 (Int.toNat j) (List.replicate 24 ((0, 0), 0, 0), ([] : (List Atom)))).1) fun (r179 : (Cube × Bool)) =>
        some (r179.1, r179.2)
        else none
        else none
      else
      some (([((0, 0), 0, 0), ((0, 0), 0, 0), ((0, 0), 0, 0), ((0, 0), 0, 0), ((0, 0), 0, 0), ((0, 0), 0, 0), ((0, 0), 0, 0), ((0, 0), 0, 0), ((0, 0), 0, 0), ((0, 0), 0, 0), ((0, 0), 0, 0), ((0, 0), 0, 0), ((0, 0), 0, 0), ((0, 0), 0, 0), ((0, 0), 0, 0), ((0, 0), 0, 0), ((0, 0), 0, 0), ((0, 0), 0, 0), ((0, 0), 0, 0), ((0, 0), 0, 0), ((0, 0), 0, 0), ((0, 0), 0, 0), ((0, 0), 0, 0), ((0, 0), 0, 0)] : Cube), false)
    else
    some (([((0, 0), 0, 0), ((0, 0), 0, 0), ((0, 0), 0, 0), ((0, 0), 0, 0), ((0, 0), 0, 0), ((0, 0), 0, 0), ((0, 0), 0, 0), ((0, 0), 0, 0), ((0, 0), 0, 0), ((0, 0), 0, 0), ((0, 0), 0, 0), ((0, 0), 0, 0), ((0, 0), 0, 0), ((0, 0), 0, 0), ((0, 0), 0, 0), ((0, 0), 0, 0), ((0, 0), 0, 0), ((0, 0), 0, 0), ((0, 0), 0, 0), ((0, 0), 0, 0), ((0, 0), 0, 0), ((0, 0), 0, 0), ((0, 0), 0, 0), ((0, 0), 0, 0)] : Cube), false)
  else
  some (([((0, 0), 0, 0), ((0, 0), 0, 0), ((0, 0), 0, 0), ((0, 0), 0, 0), ((0, 0), 0, 0), ((0, 0), 0, 0), ((0, 0), 0, 0), ((0, 0), 0, 0), ((0, 0), 0, 0), ((0, 0), 0, 0), ((0, 0), 0, 0), ((0, 0), 0, 0), ((0, 0), 0, 0), ((0, 0), 0, 0), ((0, 0), 0, 0), ((0, 0), 0, 0), ((0, 0), 0, 0), ((0, 0), 0, 0), ((0, 0), 0, 0), ((0, 0), 0, 0), ((0, 0), 0, 0), ((0, 0), 0, 0), ((0, 0), 0, 0), ((0, 0), 0, 0)] : Cube), false)

def ref37_Pairs.s1 (n : Nat) (k1 : ((List (List Int)) → Int → Option (List (List Int)))) (k0 : ((List (List Int)) → Int → Flat → Flat → Option (List (List Int)))) (out_1 : (List (List Int))) (i_1 : Int) (j : Int) (a_2 : Flat) (b_2 : Flat) : Option (List (List Int)) :=
  bif decide (j < ((List.length b_2.1 : Nat) : Int)) then
    obind (ref37_Meet n a_2 b_2 i_1 j) fun (r180 : (Cube × Bool)) =>
    bif r180.2 then
      bif decide ((List.length out_1 + List.length ([([i_1, j] : (List Int))] : (List (List Int)))) * 16 ≤ 140737488355328) then
      k1 (out_1 ++ ([([i_1, j] : (List Int))] : (List (List Int)))) (IntKind.wrap .i64 (j + 1))
      else none
    else
    k1 out_1 (IntKind.wrap .i64 (j + 1))
  else
  k0 out_1 (IntKind.wrap .i64 (i_1 + 1)) a_2 b_2

def ref37_Pairs.l1 (n : Nat) (i_1 : Int) (a_2 : Flat) (b_2 : Flat) (k0 : ((List (List Int)) → Int → Flat → Flat → Option (List (List Int)))) : Nat → (List (List Int)) → Int → Option (List (List Int))
  | 0, _, _ => none
  | m + 1, out_1, j => ref37_Pairs.s1 n (fun out_1' j' => ref37_Pairs.l1 n i_1 a_2 b_2 k0 m out_1' j') k0 out_1 i_1 j a_2 b_2

def ref37_Pairs.s0 (n : Nat) (k1 : ((List (List Int)) → Int → Int → Flat → Flat → Option (List (List Int)))) (out : (List (List Int))) (i : Int) (a_1 : Flat) (b_1 : Flat) : Option (List (List Int)) :=
  bif decide (i < ((List.length a_1.1 : Nat) : Int)) then
    k1 out i 0 a_1 b_1
  else
  some out

def ref37_Pairs.l0 (n : Nat) (a_1 : Flat) (b_1 : Flat) : Nat → (List (List Int)) → Int → Option (List (List Int))
  | 0, _, _ => none
  | m + 1, out, i => ref37_Pairs.s0 n (fun out_1' i_1' j' a_2' b_2' => ref37_Pairs.l1 n i_1' a_2' b_2' (fun out'' i'' a_1'' b_1'' => ref37_Pairs.l0 n a_1'' b_1'' m out'' i'') n out_1' j') out i a_1 b_1

def ref37_Pairs.s (n : Nat) (k0 : ((List (List Int)) → Int → Flat → Flat → Option (List (List Int)))) (a : Flat) (b : Flat) : Option (List (List Int)) :=
  k0 ([] : (List (List Int))) 0 a b

def ref37_Pairs (n : Nat) (a : Flat) (b : Flat) : Option (List (List Int)) := ref37_Pairs.s n (fun out i a_1 b_1 => ref37_Pairs.l0 n a_1 b_1 n out i) a b

def ref37_Bound.s0 (n : Nat) (k0 : (Int → Int → Option Int)) (n5 : Int) (l : (List (List Int))) (k7 : Int) (a_1 : Flat) (b_1 : Flat) : Option Int :=
  bif decide (k7 < ((List.length l : Nat) : Int)) then
    bif inRange k7 (List.length l) then
    bif inRange k7 (List.length l) then
    let y0 : (List Int) := List.getD l (Int.toNat k7) (List.replicate 2 0)
    let y1 : Int := List.getD y0 0 0
    let y2 : (List Int) := List.getD l (Int.toNat k7) (List.replicate 2 0)
    let y3 : Int := List.getD y2 1 0
    obind (ref37_Meet n a_1 b_1 y1 y3) fun (r182 : (Cube × Bool)) =>
    bif ((decide (0 ≤ y1)) && (decide (y1 ≤ ((List.length a_1.1 : Nat) : Int)))) then
    obind (ref34_Cubes n (sub a_1.1 0 (Int.toNat y1))) fun (r183 : (List Cube)) =>
    bif ((decide (0 ≤ y3)) && (decide (y3 ≤ ((List.length b_1.1 : Nat) : Int)))) then
    obind (ref34_Cubes n (sub b_1.1 0 (Int.toNat y3))) fun (r184 : (List Cube)) =>
    bif decide ((List.length r183 + List.length r184) * 768 ≤ 140737488355328) then
    obind (ref08_Bound n r182.1 (r183 ++ r184)) fun (r185 : Int) =>
    k0 (maxI n5 r185) (IntKind.wrap .i64 (k7 + 1))
    else none
    else none
    else none
    else none
    else none
  else
  some n5

def ref37_Bound.l0 (n : Nat) (l : (List (List Int))) (a_1 : Flat) (b_1 : Flat) : Nat → Int → Int → Option Int
  | 0, _, _ => none
  | m + 1, n5, k7 => ref37_Bound.s0 n (fun n5' k7' => ref37_Bound.l0 n l a_1 b_1 m n5' k7') n5 l k7 a_1 b_1

def ref37_Bound.s (n : Nat) (k0 : (Int → (List (List Int)) → Int → Flat → Flat → Option Int)) (a : Flat) (b : Flat) : Option Int :=
  obind (ref37_Pairs n a b) fun (r181 : (List (List Int))) =>
  k0 0 r181 0 a b

def ref37_Bound (n : Nat) (a : Flat) (b : Flat) : Option Int := ref37_Bound.s n (fun n5 l k7 a_1 b_1 => ref37_Bound.l0 n l a_1 b_1 n n5 k7) a b

def law37_light (n : Nat) (a : Flat) (b : Flat) (most : Int) : Option Bool :=
  obind (law37_few n a b) fun (r178 : Bool) =>
  bif (r178 == true) then
    bif ((decide (most ≤ 4096)) == false) then
      obind (ref37_Bound n a b) fun (r186 : Int) =>
      some (decide (r186 ≤ 4096))
    else
    some true
  else
  some false

def law37_light.τs : List Ty := [TFlat, TFlat, (.int .i64)]

def cube_All : Cube :=
  ([((0, 0), 0, 0), ((0, 0), 0, 0), ((0, 0), 0, 0), ((0, 0), 0, 0), ((0, 0), 0, 0), ((0, 0), 0, 0), ((0, 0), 0, 0), ((0, 0), 0, 0), ((0, 0), 0, 0), ((0, 0), 0, 0), ((0, 0), 0, 0), ((0, 0), 0, 0), ((0, 0), 0, 0), ((0, 0), 0, 0), ((0, 0), 0, 0), ((0, 0), 0, 0), ((0, 0), 0, 0), ((0, 0), 0, 0), ((0, 0), 0, 0), ((0, 0), 0, 0), ((0, 0), 0, 0), ((0, 0), 0, 0), ((0, 0), 0, 0), ((0, 0), 0, 0)] : Cube)

def region_both_meet (n : Nat) (t : Both) (i : Int) (j : Int) : Option (Cube × Bool) :=
  bif ((decide ((minI i j) < 0)) == false) then
    bif ((decide (i ≥ ((List.length t.1.1 : Nat) : Int))) == false) then
      bif decide (j ≥ ((List.length t.2.1 : Nat) : Int)) then
        some (([((0, 0), 0, 0), ((0, 0), 0, 0), ((0, 0), 0, 0), ((0, 0), 0, 0), ((0, 0), 0, 0), ((0, 0), 0, 0), ((0, 0), 0, 0), ((0, 0), 0, 0), ((0, 0), 0, 0), ((0, 0), 0, 0), ((0, 0), 0, 0), ((0, 0), 0, 0), ((0, 0), 0, 0), ((0, 0), 0, 0), ((0, 0), 0, 0), ((0, 0), 0, 0), ((0, 0), 0, 0), ((0, 0), 0, 0), ((0, 0), 0, 0), ((0, 0), 0, 0), ((0, 0), 0, 0), ((0, 0), 0, 0), ((0, 0), 0, 0), ((0, 0), 0, 0)] : Cube), false)
      else
      bif inRange i (List.length t.1.1) then
      bif inRange j (List.length t.2.1) then
      obind (cube_Meet n (List.getD t.1.1 (Int.toNat i) (List.replicate 24 ((0, 0), 0, 0), ([] : (List Atom)))).1 (List.getD t.2.1 (Int.toNat j) (List.replicate 24 ((0, 0), 0, 0), ([] : (List Atom)))).1) fun (r189 : (Cube × Bool)) =>
      some (r189.1, r189.2)
      else none
      else none
    else
    some (([((0, 0), 0, 0), ((0, 0), 0, 0), ((0, 0), 0, 0), ((0, 0), 0, 0), ((0, 0), 0, 0), ((0, 0), 0, 0), ((0, 0), 0, 0), ((0, 0), 0, 0), ((0, 0), 0, 0), ((0, 0), 0, 0), ((0, 0), 0, 0), ((0, 0), 0, 0), ((0, 0), 0, 0), ((0, 0), 0, 0), ((0, 0), 0, 0), ((0, 0), 0, 0), ((0, 0), 0, 0), ((0, 0), 0, 0), ((0, 0), 0, 0), ((0, 0), 0, 0), ((0, 0), 0, 0), ((0, 0), 0, 0), ((0, 0), 0, 0), ((0, 0), 0, 0)] : Cube), false)
  else
  some (([((0, 0), 0, 0), ((0, 0), 0, 0), ((0, 0), 0, 0), ((0, 0), 0, 0), ((0, 0), 0, 0), ((0, 0), 0, 0), ((0, 0), 0, 0), ((0, 0), 0, 0), ((0, 0), 0, 0), ((0, 0), 0, 0), ((0, 0), 0, 0), ((0, 0), 0, 0), ((0, 0), 0, 0), ((0, 0), 0, 0), ((0, 0), 0, 0), ((0, 0), 0, 0), ((0, 0), 0, 0), ((0, 0), 0, 0), ((0, 0), 0, 0), ((0, 0), 0, 0), ((0, 0), 0, 0), ((0, 0), 0, 0), ((0, 0), 0, 0), ((0, 0), 0, 0)] : Cube), false)

def region_both_ahead (n : Nat) (t : Both) (i : Int) (j : Int) : Option (List Cube) :=
  bif ((decide (0 ≤ i)) && (decide (i ≤ ((List.length t.1.1 : Nat) : Int)))) then
  obind (shadow_Cubes n (sub t.1.1 0 (Int.toNat i))) fun (r192 : (List Cube)) =>
  bif ((decide (0 ≤ j)) && (decide (j ≤ ((List.length t.2.1 : Nat) : Int)))) then
  obind (shadow_Cubes n (sub t.2.1 0 (Int.toNat j))) fun (r193 : (List Cube)) =>
  bif decide ((List.length r192 + List.length r193) * 768 ≤ 140737488355328) then
  some (r192 ++ r193)
  else none
  else none
  else none

def region_Look (n : Nat) (a : Flat) (b : Flat) (i : Int) (j : Int) (c : Cube) (most : Int) : Option (Header × Bool × Int) :=
  obind (region_both_meet n (a, b) i j) fun (r190 : (Cube × Bool)) =>
  bif r190.2 then
    obind (cube_Meet n r190.1 c) fun (r191 : (Cube × Bool)) =>
    bif !r191.2 then
      some (([(0, 0), (0, 0), (0, 0), (0, 0), (0, 0), (0, 0), (0, 0), (0, 0), (0, 0), (0, 0), (0, 0), (0, 0), (0, 0), (0, 0), (0, 0), (0, 0), (0, 0), (0, 0), (0, 0), (0, 0), (0, 0), (0, 0), (0, 0), (0, 0)] : Header), false, 0)
    else
    obind (region_both_ahead n (a, b) i j) fun (r194 : (List Cube)) =>
    obind (cover_Look n r191.1 r194 most) fun (r195 : (Header × Bool × Int)) =>
    some (r195.1, r195.2.1, r195.2.2)
  else
  bif !r190.2 then
    some (([(0, 0), (0, 0), (0, 0), (0, 0), (0, 0), (0, 0), (0, 0), (0, 0), (0, 0), (0, 0), (0, 0), (0, 0), (0, 0), (0, 0), (0, 0), (0, 0), (0, 0), (0, 0), (0, 0), (0, 0), (0, 0), (0, 0), (0, 0), (0, 0)] : Header), false, 0)
  else
  obind (region_both_ahead n (a, b) i j) fun (r196 : (List Cube)) =>
  obind (cover_Look n r190.1 r196 most) fun (r197 : (Header × Bool × Int)) =>
  some (r197.1, r197.2.1, r197.2.2)

def region_Meet (n : Nat) (a : Flat) (b : Flat) (i : Int) (j : Int) : Option (Cube × Bool) :=
  obind (region_both_meet n (a, b) i j) fun (r200 : (Cube × Bool)) =>
  some (r200.1, r200.2)

def region_both_pairs_c.s1 (n : Nat) (k1 : (Int → Option (List ((List Int) × Cube)))) (k0 : (Int → Int → Both → Option (List ((List Int) × Cube)))) (i : Int) (v11_1 : Int) (v12_1 : Int) (v18 : Int) (v19 : Int) (t_2 : Both) : Option (List ((List Int) × Cube)) :=
  bif decide (v19 < v18) then
    obind (region_both_meet n t_2 i v19) fun (r202 : (Cube × Bool)) =>
    bif (r202.2 == true) then
      obind (
        k1 (IntKind.wrap .i64 (v19 + 1))
      ) fun (z1 : (List ((List Int) × Cube))) => some ((([i, v19] : (List Int)), r202.1) :: z1)
    else
    k1 (IntKind.wrap .i64 (v19 + 1))
  else
  k0 v11_1 (IntKind.wrap .i64 (v12_1 + 1)) t_2

def region_both_pairs_c.l1 (n : Nat) (i : Int) (v11_1 : Int) (v12_1 : Int) (v18 : Int) (t_2 : Both) (k0 : (Int → Int → Both → Option (List ((List Int) × Cube)))) : Nat → Int → Option (List ((List Int) × Cube))
  | 0, _ => none
  | m + 1, v19 => region_both_pairs_c.s1 n (fun v19' => region_both_pairs_c.l1 n i v11_1 v12_1 v18 t_2 k0 m v19') k0 i v11_1 v12_1 v18 v19 t_2

def region_both_pairs_c.s0 (n : Nat) (k1 : (Int → Int → Int → Int → Int → Both → Option (List ((List Int) × Cube)))) (v11 : Int) (v12 : Int) (t_1 : Both) : Option (List ((List Int) × Cube)) :=
  bif decide (v12 < v11) then
    k1 v12 v11 v12 ((List.length t_1.2.1 : Nat) : Int) 0 t_1
  else
  some []

def region_both_pairs_c.l0 (n : Nat) (v11 : Int) (t_1 : Both) : Nat → Int → Option (List ((List Int) × Cube))
  | 0, _ => none
  | m + 1, v12 => region_both_pairs_c.s0 n (fun i' v11_1' v12_1' v18' v19' t_2' => region_both_pairs_c.l1 n i' v11_1' v12_1' v18' t_2' (fun v11'' v12'' t_1'' => region_both_pairs_c.l0 n v11'' t_1'' m v12'') n v19') v11 v12 t_1

def region_both_pairs_c.s (n : Nat) (k0 : (Int → Int → Both → Option (List ((List Int) × Cube)))) (t : Both) : Option (List ((List Int) × Cube)) :=
  k0 ((List.length t.1.1 : Nat) : Int) 0 t

def region_both_pairs_c (n : Nat) (t : Both) : Option (List ((List Int) × Cube)) := region_both_pairs_c.s n (fun v11 v12 t_1 => region_both_pairs_c.l0 n v11 t_1 n v12) t

def region_Bound.z0 (n : Nat) (t : Both) (n6 : Int) : Option Int :=
  some n6

def region_Bound.s0 (n : Nat) (k0 : (Int → Option Int)) (t : Both) (n6 : Int) (x : ((List Int) × Cube)) : Option Int :=
  obind (region_both_ahead n t (List.getD x.1 0 0) (List.getD x.1 1 0)) fun (r204 : (List Cube)) =>
  obind (cover_Bound n x.2 r204) fun (r205 : Int) =>
  k0 (maxI n6 r205)

def region_Bound.l0 (n : Nat) (t : Both) : (List ((List Int) × Cube)) → Int → Option Int
  | [], n6 => region_Bound.z0 n t n6
  | x :: xs, n6 => region_Bound.s0 n (fun n6' => region_Bound.l0 n t xs n6') t n6 x

def region_Bound.s (n : Nat) (k0 : ((List ((List Int) × Cube)) → Both → Int → Option Int)) (a : Flat) (b : Flat) : Option Int :=
  obind (region_both_pairs_c n (a, b)) fun (r203 : (List ((List Int) × Cube))) =>
  k0 r203 (a, b) 0

def region_Bound (n : Nat) (a : Flat) (b : Flat) : Option Int := region_Bound.s n (fun xs t n6 => region_Bound.l0 n t xs n6) a b

def region_Pairs_1.z0 (n : Nat) : Option (List (Int × Int)) :=
  some []

def region_Pairs_1.s0 (n : Nat) (k0 : (Option (List (Int × Int)))) (x : ((List Int) × Cube)) : Option (List (Int × Int)) :=
  obind (
    k0
  ) fun (z1 : (List (Int × Int))) => some ((List.getD x.1 0 0, List.getD x.1 1 0) :: z1)

def region_Pairs_1.l0 (n : Nat) : (List ((List Int) × Cube)) → Option (List (Int × Int))
  | [] => region_Pairs_1.z0 n
  | x :: xs => region_Pairs_1.s0 n (region_Pairs_1.l0 n xs) x

def region_Pairs_1.s (n : Nat) (k0 : ((List ((List Int) × Cube)) → Option (List (Int × Int)))) (c0 : Both) : Option (List (Int × Int)) :=
  obind (region_both_pairs_c n c0) fun (r207 : (List ((List Int) × Cube))) =>
  k0 r207

def region_Pairs_1 (n : Nat) (c0 : Both) : Option (List (Int × Int)) := region_Pairs_1.s n (fun xs => region_Pairs_1.l0 n xs) c0

def region_Pairs (n : Nat) (a : Flat) (b : Flat) : Option (List (Int × Int)) :=
  obind (region_Pairs_1 n (a, b)) fun (r208 : (List (Int × Int))) =>
  some r208

def law37_all.z0 (n : Nat) (out : (List (List Int))) : Option (List (List Int)) :=
  some out

def law37_all.s0 (n : Nat) (k0 : ((List (List Int)) → Option (List (List Int)))) (out : (List (List Int))) (x : (Int × Int)) : Option (List (List Int)) :=
  bif decide ((List.length out + List.length ([([x.1, x.2] : (List Int))] : (List (List Int)))) * 16 ≤ 140737488355328) then
  k0 (out ++ ([([x.1, x.2] : (List Int))] : (List (List Int))))
  else none

def law37_all.l0 (n : Nat) : (List (Int × Int)) → (List (List Int)) → Option (List (List Int))
  | [], out => law37_all.z0 n out
  | x :: xs, out => law37_all.s0 n (fun out' => law37_all.l0 n xs out') out x

def law37_all.s (n : Nat) (k0 : ((List (Int × Int)) → (List (List Int)) → Option (List (List Int)))) (a : Flat) (b : Flat) : Option (List (List Int)) :=
  obind (region_Pairs n a b) fun (r210 : (List (Int × Int))) =>
  k0 r210 ([] : (List (List Int)))

def law37_all (n : Nat) (a : Flat) (b : Flat) : Option (List (List Int)) := law37_all.s n (fun xs out => law37_all.l0 n xs out) a b

def law37_all.τs : List Ty := [TFlat, TFlat]

def law37_awake (n : Nat) : Option Bool :=
  obind (some cube_All) fun (r188 : Cube) =>
  let y0 : Cube := List.replicate 24 ((0, 0), 0, 0)
  let y1 : Cube := List.replicate 24 ((0, 0), 0, 0)
  obind (region_Look n (([(([((0, 0), 0, 1), ((0, 0), 0, 0), ((0, 0), 0, 0), ((0, 0), 0, 0), ((0, 0), 0, 0), ((0, 0), 0, 0), ((0, 0), 0, 0), ((0, 0), 0, 0), ((0, 0), 0, 0), ((0, 0), 0, 0), ((0, 0), 0, 0), ((0, 0), 0, 0), ((0, 0), 0, 0), ((0, 0), 0, 0), ((0, 0), 0, 0), ((0, 0), 0, 0), ((0, 0), 0, 0), ((0, 0), 0, 0), ((0, 0), 0, 0), ((0, 0), 0, 0), ((0, 0), 0, 0), ((0, 0), 0, 0), ((0, 0), 0, 0), ((0, 0), 0, 0)] : Cube), ([] : (List Atom))), (y0, ([] : (List Atom)))] : (List Rule)), ([] : (List Group))) (([(y1, ([] : (List Atom)))] : (List Rule)), ([] : (List Group))) 1 0 r188 9) fun (r198 : (Header × Bool × Int)) =>
  obind (region_Look n (([(([((0, 0), 0, 1), ((0, 0), 0, 0), ((0, 0), 0, 0), ((0, 0), 0, 0), ((0, 0), 0, 0), ((0, 0), 0, 0), ((0, 0), 0, 0), ((0, 0), 0, 0), ((0, 0), 0, 0), ((0, 0), 0, 0), ((0, 0), 0, 0), ((0, 0), 0, 0), ((0, 0), 0, 0), ((0, 0), 0, 0), ((0, 0), 0, 0), ((0, 0), 0, 0), ((0, 0), 0, 0), ((0, 0), 0, 0), ((0, 0), 0, 0), ((0, 0), 0, 0), ((0, 0), 0, 0), ((0, 0), 0, 0), ((0, 0), 0, 0), ((0, 0), 0, 0)] : Cube), ([] : (List Atom))), (y0, ([] : (List Atom)))] : (List Rule)), ([] : (List Group))) (([(y1, ([] : (List Atom)))] : (List Rule)), ([] : (List Group))) 1 0 ([((0, 0), 0, 1), ((0, 0), 0, 0), ((0, 0), 0, 0), ((0, 0), 0, 0), ((0, 0), 0, 0), ((0, 0), 0, 0), ((0, 0), 0, 0), ((0, 0), 0, 0), ((0, 0), 0, 0), ((0, 0), 0, 0), ((0, 0), 0, 0), ((0, 0), 0, 0), ((0, 0), 0, 0), ((0, 0), 0, 0), ((0, 0), 0, 0), ((0, 0), 0, 0), ((0, 0), 0, 0), ((0, 0), 0, 0), ((0, 0), 0, 0), ((0, 0), 0, 0), ((0, 0), 0, 0), ((0, 0), 0, 0), ((0, 0), 0, 0), ((0, 0), 0, 0)] : Cube) 9) fun (r199 : (Header × Bool × Int)) =>
  obind (region_Meet n (([(([((0, 0), 0, 1), ((0, 0), 0, 0), ((0, 0), 0, 0), ((0, 0), 0, 0), ((0, 0), 0, 0), ((0, 0), 0, 0), ((0, 0), 0, 0), ((0, 0), 0, 0), ((0, 0), 0, 0), ((0, 0), 0, 0), ((0, 0), 0, 0), ((0, 0), 0, 0), ((0, 0), 0, 0), ((0, 0), 0, 0), ((0, 0), 0, 0), ((0, 0), 0, 0), ((0, 0), 0, 0), ((0, 0), 0, 0), ((0, 0), 0, 0), ((0, 0), 0, 0), ((0, 0), 0, 0), ((0, 0), 0, 0), ((0, 0), 0, 0), ((0, 0), 0, 0)] : Cube), ([] : (List Atom))), (y0, ([] : (List Atom)))] : (List Rule)), ([] : (List Group))) (([(y1, ([] : (List Atom)))] : (List Rule)), ([] : (List Group))) 0 0) fun (r201 : (Cube × Bool)) =>
  bif (r198.2.1 == true) then
    bif ((r198.2.2 == 0) == true) then
      bif (((List.getD r198.1 0 (0, 0)).2 == 1) == true) then
        bif ((!r199.2.1) == true) then
          bif ((r199.2.2 == 0) == true) then
            bif (r201.2 == true) then
              bif ((beqT TCube r201.1 ([((0, 0), 0, 1), ((0, 0), 0, 0), ((0, 0), 0, 0), ((0, 0), 0, 0), ((0, 0), 0, 0), ((0, 0), 0, 0), ((0, 0), 0, 0), ((0, 0), 0, 0), ((0, 0), 0, 0), ((0, 0), 0, 0), ((0, 0), 0, 0), ((0, 0), 0, 0), ((0, 0), 0, 0), ((0, 0), 0, 0), ((0, 0), 0, 0), ((0, 0), 0, 0), ((0, 0), 0, 0), ((0, 0), 0, 0), ((0, 0), 0, 0), ((0, 0), 0, 0), ((0, 0), 0, 0), ((0, 0), 0, 0), ((0, 0), 0, 0), ((0, 0), 0, 0)] : Cube)) == true) then
                obind (region_Bound n (([(([((0, 0), 0, 1), ((0, 0), 0, 0), ((0, 0), 0, 0), ((0, 0), 0, 0), ((0, 0), 0, 0), ((0, 0), 0, 0), ((0, 0), 0, 0), ((0, 0), 0, 0), ((0, 0), 0, 0), ((0, 0), 0, 0), ((0, 0), 0, 0), ((0, 0), 0, 0), ((0, 0), 0, 0), ((0, 0), 0, 0), ((0, 0), 0, 0), ((0, 0), 0, 0), ((0, 0), 0, 0), ((0, 0), 0, 0), ((0, 0), 0, 0), ((0, 0), 0, 0), ((0, 0), 0, 0), ((0, 0), 0, 0), ((0, 0), 0, 0), ((0, 0), 0, 0)] : Cube), ([] : (List Atom))), (y0, ([] : (List Atom)))] : (List Rule)), ([] : (List Group))) (([(y1, ([] : (List Atom)))] : (List Rule)), ([] : (List Group)))) fun (r206 : Int) =>
                bif ((r206 == 2) == true) then
                  obind (region_Pairs n (([(([((0, 0), 0, 1), ((0, 0), 0, 0), ((0, 0), 0, 0), ((0, 0), 0, 0), ((0, 0), 0, 0), ((0, 0), 0, 0), ((0, 0), 0, 0), ((0, 0), 0, 0), ((0, 0), 0, 0), ((0, 0), 0, 0), ((0, 0), 0, 0), ((0, 0), 0, 0), ((0, 0), 0, 0), ((0, 0), 0, 0), ((0, 0), 0, 0), ((0, 0), 0, 0), ((0, 0), 0, 0), ((0, 0), 0, 0), ((0, 0), 0, 0), ((0, 0), 0, 0), ((0, 0), 0, 0), ((0, 0), 0, 0), ((0, 0), 0, 0), ((0, 0), 0, 0)] : Cube), ([] : (List Atom))), (y0, ([] : (List Atom)))] : (List Rule)), ([] : (List Group))) (([(y1, ([] : (List Atom)))] : (List Rule)), ([] : (List Group)))) fun (r209 : (List (Int × Int))) =>
                  obind (law37_all n (([(([((0, 0), 0, 1), ((0, 0), 0, 0), ((0, 0), 0, 0), ((0, 0), 0, 0), ((0, 0), 0, 0), ((0, 0), 0, 0), ((0, 0), 0, 0), ((0, 0), 0, 0), ((0, 0), 0, 0), ((0, 0), 0, 0), ((0, 0), 0, 0), ((0, 0), 0, 0), ((0, 0), 0, 0), ((0, 0), 0, 0), ((0, 0), 0, 0), ((0, 0), 0, 0), ((0, 0), 0, 0), ((0, 0), 0, 0), ((0, 0), 0, 0), ((0, 0), 0, 0), ((0, 0), 0, 0), ((0, 0), 0, 0), ((0, 0), 0, 0), ((0, 0), 0, 0)] : Cube), ([] : (List Atom))), (y0, ([] : (List Atom)))] : (List Rule)), ([] : (List Group))) (([(y1, ([] : (List Atom)))] : (List Rule)), ([] : (List Group)))) fun (r211 : (List (List Int))) =>
                  some (((List.length r211 : Nat) : Int) == 2)
                else
                some false
              else
              some false
            else
            some false
          else
          some false
        else
        some false
      else
      some false
    else
    some false
  else
  some false

def law37_awake.τs : List Ty := []

def ref37_Look (n : Nat) (a : Flat) (b : Flat) (i : Int) (j : Int) (c : Cube) (most : Int) : Option (Header × Bool × Int) :=
  obind (ref37_Meet n a b i j) fun (r214 : (Cube × Bool)) =>
  bif !r214.2 then
    some (([(0, 0), (0, 0), (0, 0), (0, 0), (0, 0), (0, 0), (0, 0), (0, 0), (0, 0), (0, 0), (0, 0), (0, 0), (0, 0), (0, 0), (0, 0), (0, 0), (0, 0), (0, 0), (0, 0), (0, 0), (0, 0), (0, 0), (0, 0), (0, 0)] : Header), false, 0)
  else
  obind (ref06_Meet n r214.1 c) fun (r215 : (Cube × Bool)) =>
  bif !r215.2 then
    some (([(0, 0), (0, 0), (0, 0), (0, 0), (0, 0), (0, 0), (0, 0), (0, 0), (0, 0), (0, 0), (0, 0), (0, 0), (0, 0), (0, 0), (0, 0), (0, 0), (0, 0), (0, 0), (0, 0), (0, 0), (0, 0), (0, 0), (0, 0), (0, 0)] : Header), false, 0)
  else
  bif ((decide (0 ≤ i)) && (decide (i ≤ ((List.length a.1 : Nat) : Int)))) then
  obind (ref34_Cubes n (sub a.1 0 (Int.toNat i))) fun (r216 : (List Cube)) =>
  bif ((decide (0 ≤ j)) && (decide (j ≤ ((List.length b.1 : Nat) : Int)))) then
  obind (ref34_Cubes n (sub b.1 0 (Int.toNat j))) fun (r217 : (List Cube)) =>
  bif decide ((List.length r216 + List.length r217) * 768 ≤ 140737488355328) then
  obind (ref08_Look n r215.1 (r216 ++ r217) most) fun (r218 : (Header × Bool × Int)) =>
  some (r218.1, r218.2.1, r218.2.2)
  else none
  else none
  else none

def law37_RegionLooks (n : Nat) (a : Flat) (b : Flat) (i : Int) (j : Int) (c : Cube) (most : Int) : Option Bool :=
  obind (law37_light n a b most) fun (r187 : Bool) =>
  bif !r187 then
    obind (law37_awake n) fun (r212 : Bool) =>
    some r212
  else
  obind (region_Look n a b i j c most) fun (r213 : (Header × Bool × Int)) =>
  obind (ref37_Look n a b i j c most) fun (r219 : (Header × Bool × Int)) =>
  bif ((beqT THeader r213.1 r219.1) == true) then
    bif ((r213.2.1 == r219.2.1) == true) then
      bif ((r213.2.2 == r219.2.2) == true) then
        obind (law37_awake n) fun (r220 : Bool) =>
        some r220
      else
      some false
    else
    some false
  else
  some false

def law37_RegionLooks.τs : List Ty := [TFlat, TFlat, (.int .i64), (.int .i64), TCube, (.int .i64)]

def law37_cubes (n : Nat) (a : Flat) (b : Flat) (i : Int) (j : Int) : Option (List Cube) :=
  bif ((decide (0 ≤ i)) && (decide (i ≤ ((List.length a.1 : Nat) : Int)))) then
  obind (ref34_Cubes n (sub a.1 0 (Int.toNat i))) fun (r226 : (List Cube)) =>
  bif ((decide (0 ≤ j)) && (decide (j ≤ ((List.length b.1 : Nat) : Int)))) then
  obind (ref34_Cubes n (sub b.1 0 (Int.toNat j))) fun (r227 : (List Cube)) =>
  bif decide ((List.length r226 + List.length r227) * 768 ≤ 140737488355328) then
  some (r226 ++ r227)
  else none
  else none
  else none

def law37_cubes.τs : List Ty := [TFlat, TFlat, (.int .i64), (.int .i64)]

def law37_RegionEnough (n : Nat) (a : Flat) (b : Flat) (i : Int) (j : Int) (c : Cube) (more : Int) : Option Bool :=
  obind (region_Bound n a b) fun (r221 : Int) =>
  obind (law37_few n a b) fun (r222 : Bool) =>
  bif ((!r222) == false) then
    bif decide (r221 > 4096) then
      obind (law37_awake n) fun (r223 : Bool) =>
      some r223
    else
    obind (region_Look n a b i j c (IntKind.wrap .i64 (r221 + (IntKind.wrap .i64 more)))) fun (r224 : (Header × Bool × Int)) =>
    obind (region_Meet n a b i j) fun (r225 : (Cube × Bool)) =>
    bif (r225.2 == true) then
      obind (law37_cubes n a b i j) fun (r228 : (List Cube)) =>
      obind (ref08_Bound n r225.1 r228) fun (r229 : Int) =>
      bif decide (r229 > r221) then
        some false
      else
      bif ((r224.2.2 == 0) == true) then
        obind (law37_awake n) fun (r230 : Bool) =>
        some r230
      else
      some false
    else
    bif ((r224.2.2 == 0) == true) then
      obind (law37_awake n) fun (r231 : Bool) =>
      some r231
    else
    some false
  else
  obind (law37_awake n) fun (r232 : Bool) =>
  some r232

def law37_RegionEnough.τs : List Ty := [TFlat, TFlat, (.int .i64), (.int .i64), TCube, (.int .u16)]

def ref05_Has (t : Tern) (v : Wide) : Bool :=
  let r237 : Wide := ref02_Xor t.1 v
  let r238 : Wide := ref02_And r237 t.2
  let r239 : Bool := ref02_Zero r238
  r239

def ref06_Has.s0 (n : Nat) (k0 : (Int → Option Bool)) (f : Int) (c_1 : Cube) (h_1 : Header) : Option Bool :=
  bif decide (f < 24) then
    bif inRange f 24 then
    bif inRange f 24 then
    obind (some (ref05_Has (List.getD c_1 (Int.toNat f) ((0, 0), 0, 0)) (List.getD h_1 (Int.toNat f) (0, 0)))) fun (r240 : Bool) =>
    bif !r240 then
      some false
    else
    k0 (IntKind.wrap .i64 (f + 1))
    else none
    else none
  else
  some true

def ref06_Has.l0 (n : Nat) (c_1 : Cube) (h_1 : Header) : Nat → Int → Option Bool
  | 0, _ => none
  | m + 1, f => ref06_Has.s0 n (fun f' => ref06_Has.l0 n c_1 h_1 m f') f c_1 h_1

def ref06_Has.s (n : Nat) (k0 : (Int → Cube → Header → Option Bool)) (c : Cube) (h : Header) : Option Bool :=
  k0 0 c h

def ref06_Has (n : Nat) (c : Cube) (h : Header) : Option Bool := ref06_Has.s n (fun f c_1 h_1 => ref06_Has.l0 n c_1 h_1 n f) c h

def ref36_Find.s0 (n : Nat) (k0 : (Int → Option (Int × Bool))) (i : Int) (f_1 : Flat) (h_1 : Header) : Option (Int × Bool) :=
  bif decide (i < ((List.length f_1.1 : Nat) : Int)) then
    bif inRange i (List.length f_1.1) then
    obind (ref06_Has n (List.getD f_1.1 (Int.toNat i) (List.replicate 24 ((0, 0), 0, 0), ([] : (List Atom)))).1 h_1) fun (r241 : Bool) =>
    bif r241 then
      some (i, true)
    else
    k0 (IntKind.wrap .i64 (i + 1))
    else none
  else
  some (0, false)

def ref36_Find.l0 (n : Nat) (f_1 : Flat) (h_1 : Header) : Nat → Int → Option (Int × Bool)
  | 0, _ => none
  | m + 1, i => ref36_Find.s0 n (fun i' => ref36_Find.l0 n f_1 h_1 m i') i f_1 h_1

def ref36_Find.s (n : Nat) (k0 : (Int → Flat → Header → Option (Int × Bool))) (f : Flat) (h : Header) : Option (Int × Bool) :=
  k0 0 f h

def ref36_Find (n : Nat) (f : Flat) (h : Header) : Option (Int × Bool) := ref36_Find.s n (fun i f_1 h_1 => ref36_Find.l0 n f_1 h_1 n i) f h

def law37_RegionHits (n : Nat) (a : Flat) (b : Flat) (i : Int) (j : Int) (c : Cube) (most : Int) (g : Header) : Option Bool :=
  obind (law37_light n a b most) fun (r233 : Bool) =>
  bif !r233 then
    obind (law37_awake n) fun (r234 : Bool) =>
    some r234
  else
  obind (region_Look n a b i j c most) fun (r235 : (Header × Bool × Int)) =>
  bif (r235.2.2 != 0) then
    bif ((!r235.2.1) == true) then
      obind (law37_awake n) fun (r236 : Bool) =>
      some r236
    else
    some false
  else
  bif r235.2.1 then
    obind (ref36_Find n a r235.1) fun (r242 : (Int × Bool)) =>
    obind (ref36_Find n b r235.1) fun (r243 : (Int × Bool)) =>
    bif (r242.2 == true) then
      bif (r243.2 == true) then
        bif ((r242.1 == i) == true) then
          bif ((r243.1 == j) == true) then
            obind (cube_Has n c r235.1) fun (r244 : Bool) =>
            bif ((r244 == r235.2.1) == true) then
              obind (law37_awake n) fun (r245 : Bool) =>
              some r245
            else
            some false
          else
          bif ((false == r235.2.1) == true) then
            obind (law37_awake n) fun (r246 : Bool) =>
            some r246
          else
          some false
        else
        bif ((false == r235.2.1) == true) then
          obind (law37_awake n) fun (r247 : Bool) =>
          some r247
        else
        some false
      else
      bif ((false == r235.2.1) == true) then
        obind (law37_awake n) fun (r248 : Bool) =>
        some r248
      else
      some false
    else
    bif ((false == r235.2.1) == true) then
      obind (law37_awake n) fun (r249 : Bool) =>
      some r249
    else
    some false
  else
  obind (ref36_Find n a g) fun (r250 : (Int × Bool)) =>
  obind (ref36_Find n b g) fun (r251 : (Int × Bool)) =>
  bif (r250.2 == true) then
    bif (r251.2 == true) then
      bif ((r250.1 == i) == true) then
        bif ((r251.1 == j) == true) then
          obind (cube_Has n c g) fun (r252 : Bool) =>
          bif ((r252 == r235.2.1) == true) then
            obind (law37_awake n) fun (r253 : Bool) =>
            some r253
          else
          some false
        else
        bif ((false == r235.2.1) == true) then
          obind (law37_awake n) fun (r254 : Bool) =>
          some r254
        else
        some false
      else
      bif ((false == r235.2.1) == true) then
        obind (law37_awake n) fun (r255 : Bool) =>
        some r255
      else
      some false
    else
    bif ((false == r235.2.1) == true) then
      obind (law37_awake n) fun (r256 : Bool) =>
      some r256
    else
    some false
  else
  bif ((false == r235.2.1) == true) then
    obind (law37_awake n) fun (r257 : Bool) =>
    some r257
  else
  some false

def law37_RegionHits.τs : List Ty := [TFlat, TFlat, (.int .i64), (.int .i64), TCube, (.int .i64), THeader]

def slices_Equal_2_int.s0 (n : Nat) (k0 : (Int → Option Bool)) (s1_1 : (List (List Int))) (s2_1 : (List (List Int))) (v12 : Int) (v13 : Int) : Option Bool :=
  bif decide (v13 < v12) then
    bif inRange v13 (List.length s1_1) then
    bif inRange v13 (List.length s2_1) then
    bif !(beqT (.arr 2 (.int .i64)) (List.getD s1_1 (Int.toNat v13) (List.replicate 2 0)) (List.getD s2_1 (Int.toNat v13) (List.replicate 2 0))) then
      some false
    else
    k0 (IntKind.wrap .i64 (v13 + 1))
    else none
    else none
  else
  some true

def slices_Equal_2_int.l0 (n : Nat) (s1_1 : (List (List Int))) (s2_1 : (List (List Int))) (v12 : Int) : Nat → Int → Option Bool
  | 0, _ => none
  | m + 1, v13 => slices_Equal_2_int.s0 n (fun v13' => slices_Equal_2_int.l0 n s1_1 s2_1 v12 m v13') s1_1 s2_1 v12 v13

def slices_Equal_2_int.s (n : Nat) (k0 : ((List (List Int)) → (List (List Int)) → Int → Int → Option Bool)) (s1 : (List (List Int))) (s2 : (List (List Int))) : Option Bool :=
  bif (((List.length s1 : Nat) : Int) != ((List.length s2 : Nat) : Int)) then
    some false
  else
  k0 s1 s2 ((List.length s1 : Nat) : Int) 0

def slices_Equal_2_int (n : Nat) (s1 : (List (List Int))) (s2 : (List (List Int))) : Option Bool := slices_Equal_2_int.s n (fun s1_1 s2_1 v12 v13 => slices_Equal_2_int.l0 n s1_1 s2_1 v12 n v13) s1 s2

def law37_RegionPairs (n : Nat) (a : Flat) (b : Flat) (i : Int) (j : Int) : Option Bool :=
  obind (region_Pairs n a b) fun (r258 : (List (Int × Int))) =>
  obind (law37_few n a b) fun (r259 : Bool) =>
  bif !r259 then
    obind (region_Pairs n a b) fun (r260 : (List (Int × Int))) =>
    obind (law37_awake n) fun (r261 : Bool) =>
    some r261
  else
  obind (region_Meet n a b i j) fun (r262 : (Cube × Bool)) =>
  obind (ref37_Meet n a b i j) fun (r263 : (Cube × Bool)) =>
  bif ((beqT TCube r262.1 r263.1) == true) then
    bif ((r262.2 == r263.2) == true) then
      obind (law37_all n a b) fun (r264 : (List (List Int))) =>
      obind (ref37_Pairs n a b) fun (r265 : (List (List Int))) =>
      obind (slices_Equal_2_int n r264 r265) fun (r266 : Bool) =>
      bif (r266 == true) then
        obind (region_Bound n a b) fun (r267 : Int) =>
        obind (ref37_Bound n a b) fun (r268 : Int) =>
        bif ((r267 == r268) == true) then
          obind (region_Pairs n (([] : (List Rule)), ([] : (List Group))) a) fun (r269 : (List (Int × Int))) =>
          obind (law37_awake n) fun (r270 : Bool) =>
          some r270
        else
        some false
      else
      some false
    else
    some false
  else
  some false

def law37_RegionPairs.τs : List Ty := [TFlat, TFlat, (.int .i64), (.int .i64)]

end Go.Fn
