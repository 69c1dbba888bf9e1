/- The interpreter: what a function's code computes of pure values. -/
import Derived.Test.YtagpigbfbhdoiaaViA
import Derived.Orders
namespace Go.Vi

/-! ### parts of values -/
def fldGet : (nf i : Nat) → (τ : Ty) → τ.den → Option D
  | 1, 0, .one a, x => some ⟨a, x⟩
  | 2, 0, .pair a _, x => some ⟨a, x.1⟩
  | 2, 1, .pair _ b, x => some ⟨b, x.2⟩
  | _ + 3, 0, .pair a _, x => some ⟨a, x.1⟩
  | nf + 3, i + 1, .pair _ b, x => fldGet (nf + 2) i b x.2
  | _, _, _, _ => none

/-- The data as of a type. -/
def castD (σ τ : Ty) (x : σ.den) : Option τ.den := if h : σ.beq τ = true then some (Ty.eq_of_beq h ▸ x) else none

def fldSet : (nf i : Nat) → (τ : Ty) → τ.den → D → Option τ.den
  | 1, 0, .one a, _, d => castD d.1 a d.2
  | 2, 0, .pair a _, x, d => (castD d.1 a d.2).map fun y => (y, x.2)
  | 2, 1, .pair _ b, x, d => (castD d.1 b d.2).map fun y => (x.1, y)
  | _ + 3, 0, .pair a _, x, d => (castD d.1 a d.2).map fun y => (y, x.2)
  | nf + 3, i + 1, .pair _ b, x, d => (fldSet (nf + 2) i b x.2 d).map fun y => (x.1, y)
  | _, _, _, _, _ => none

def fldOff : (nf i : Nat) → Ty → Nat
  | nf + 3, i + 1, .pair a b => a.size + fldOff (nf + 2) i b
  | 2, 1, .pair a _ => a.size
  | _, _, _ => 0

def fldTy : (nf i : Nat) → Ty → Option Ty
  | 1, 0, .one a => some a
  | 2, 0, .pair a _ => some a
  | 2, 1, .pair _ b => some b
  | _ + 3, 0, .pair a _ => some a
  | nf + 3, i + 1, .pair _ b => fldTy (nf + 2) i b
  | _, _, _ => none

/-- A step into a value. -/
inductive Step where
  | fld (nf i : Nat)
  | idx (i : Nat)

def stepGet : Step → D → Option D
  | .fld nf i, ⟨τ, x⟩ => fldGet nf i τ x
  | .idx i, ⟨.arr _ e, xs⟩ => some ⟨e, List.getD xs i e.zero⟩
  | .idx _, _ => none

def pathGet : List Step → D → Option D
  | [], d => some d
  | s :: π, d => (stepGet s d).bind (pathGet π)

def stepTy : Step → Ty → Option Ty
  | .fld nf i, τ => fldTy nf i τ
  | .idx _, .arr _ e => some e
  | .idx _, _ => none
def pathTy : List Step → Ty → Option Ty
  | [], τ => some τ
  | s :: π, τ => (stepTy s τ).bind (pathTy π)

def stepOff : Step → Ty → Nat
  | .fld nf i, τ => fldOff nf i τ
  | .idx i, .arr _ e => i * e.size
  | .idx _, _ => 0
def pathOff : List Step → Ty → Nat
  | [], _ => 0
  | s :: π, τ => stepOff s τ + (match stepTy s τ with | some σ => pathOff π σ | none => 0)

def pathSet : List Step → D → D → Option D
  | [], d, y => (castD y.1 d.1 y.2).map fun z => ⟨d.1, z⟩
  | .fld nf i :: π, ⟨τ, x⟩, y => (fldGet nf i τ x).bind fun d => (pathSet π d y).bind fun d' => (fldSet nf i τ x d').map fun z => ⟨τ, z⟩
  | .idx i :: π, ⟨.arr n e, xs⟩, y => (pathSet π ⟨e, List.getD xs i e.zero⟩ y).bind fun d' => (castD d'.1 e d'.2).map fun z => ⟨.arr n e, List.set xs i z⟩
  | .idx _ :: _, _, _ => none

/-! ### what calls take and give -/
@[reducible] def dens : List Ty → Type
  | [] => Unit
  | [a] => a.den
  | a :: b :: l => a.den × dens (b :: l)

inductive PTy where
  | data (τ : Ty)
  | cptr (τ : Ty)
  | fnp (ps rs : List Ty)
  | seqp (es : List Ty)
  | nils (e : Ty)
@[reducible] def PTy.den : PTy → Type
  | .data τ => τ.den
  | .cptr τ => τ.den
  | .fnp ps rs => dens ps → Option (dens rs)
  | .seqp es => List (dens es)
  | .nils _ => Unit
@[reducible] def pdens : List PTy → Type
  | [] => Unit
  | [a] => a.den
  | a :: b :: l => a.den × pdens (b :: l)

inductive RTy where
  | data (τ : Ty)
  | fresh (e : Ty)
  | own (e : Ty)
  | oncer (es : List Ty)
  | seqr (es : List Ty)
  | fnr (ps rs : List Ty)
@[reducible] def RTy.den : RTy → Type
  | .data τ => τ.den
  | .fresh e => List e.den
  | .own e => List e.den
  | .oncer es => List (dens es)
  | .seqr es => List (dens es)
  | .fnr ps rs => dens ps → Option (dens rs)
@[reducible] def rdens : List RTy → Type
  | [] => Unit
  | [a] => a.den
  | a :: b :: l => a.den × rdens (b :: l)

structure Ent where
  ps : List PTy
  rs : List RTy
  g : pdens ps → Option (rdens rs)
structure Cl where
  ps : List Ty
  caps : List PTy
  rs : List Ty
  g : dens ps → pdens caps → Option (dens rs)

/-- An iterator: what it gives, what it takes ahead of the loop's body, and what it has captured. -/
structure Sq where
  es : List Ty
  firsts : List PTy
  caps : List PTy
  g : pdens firsts → pdens caps → Option (List (dens es))

/-- An iterator that has one variable of its own, and is gone over once. -/
structure Oq where
  es : List Ty
  τ : Ty
  g : τ.den → Option (List (dens es))

/-- A function that writes what its first argument points to. -/
structure Em where
  τ : Ty
  ps : List PTy
  rs : List RTy
  g : τ.den → pdens ps → Option (τ.den × rdens rs)

/-- A function that takes a slice of its caller's own, and keeps it. -/
structure De where
  e : Ty
  ps : List PTy
  rs : List RTy
  g : List e.den → pdens ps → Option (rdens rs)

structure TE where
  ty : Ty
  nf : Nat
  bytes : Nat

/-! ### the state -/
inductive Tag where
  | clip
  | tip (T n : Nat)
  | nn

inductive S where
  | dat (τ : Ty) (x : τ.den)
  | lst (g : Tag) (e : Ty) (x : List e.den)
  | ptr (id n : Nat) (root : Ty) (π : List Step)
  | cptr (τ : Ty) (x : τ.den)
  | fn (ps rs : List Ty) (g : dens ps → Option (dens rs))
  | seq (es : List Ty) (xs : List (dens es))
  | yld (es : List Ty)
  | fref (f : Nat)
  | tup (l : List S)
  | nil
  | nilf
  | gone
  | poison
  /-- A slice of the run's own, whose items may be written: its row's name and number; what the row holds; the address of a part of an item. -/
  | vec (id n : Nat) (e : Ty)
  | row (e : Ty) (xs : List e.den)
  | eptr (id n : Nat) (e : Ty) (i : Nat) (π : List Step)
  /-- An iterator that is gone over once: its row's name and number; what the row promises. -/
  | once (id n : Nat)
  | inn (es : List Ty) (xs : List (dens es))
  /-- What a variable holds that has, at a path, a slice with a right. -/
  | fat (τ : Ty) (x : τ.den) (π : List Step) (g : Tag) (e : Ty) (ys : List e.den)
  /-- A slice of the run's own, from a place on. -/
  | vsub (id n : Nat) (e : Ty) (lo : Nat)

def unfat : S → S
  | .fat τ x _ _ _ _ => .dat τ x
  | c => c
/-- What of a content may have a right. -/
def plcOf : S → S
  | .fat _ _ _ g e ys => .lst g e ys
  | c => c
def stepBeq : Step → Step → Bool
  | .fld a b, .fld c d => Nat.beq a c && Nat.beq b d
  | .idx a, .idx b => Nat.beq a b
  | _, _ => false
def pathBeq : List Step → List Step → Bool
  | [], [] => true
  | a :: l, b :: m => stepBeq a b && pathBeq l m
  | _, _ => false

/-- A variable of the run's own (with its number among those of one name; 'fz': it is written no more), or the right to a slice's spare room. -/
inductive HC where
  | box (n : Nat) (fz : Bool) (c : S)
  | tok (n : Nat)

def look {α : Type} (d : α) : List (Nat × α) → Nat → α
  | [], _ => d
  | (k, v) :: l, n => bif Nat.beq k n then v else look d l n
def lookO {α : Type} : List (Nat × α) → Nat → Option α
  | [], _ => none
  | (k, v) :: l, n => bif Nat.beq k n then some v else lookO l n

def mem (n : Nat) : List Nat → Bool
  | [] => false
  | k :: l => bif Nat.beq k n then true else mem n l

structure St where
  slots : List (Nat × S)
  heap : List (Nat × HC)

structure Ctx where
  tab : List (Nat × TE)
  fts : List Nat
  Γ : Nat → Option Ent
  Γc : Nat → Option Cl
  Γs : Nat → Option Sq
  Γm : Nat → Option Em
  pts : List Nat
  ntmps : Nat
  keep : Nat → List Nat × List Nat
  pins : List Nat
  /-- where an append makes a slice of the run's own -/
  owns : List Nat := []
  /-- variables that may have a slice with a right at a path -/
  fats : List Nat := []
  /-- variables that are never written -/
  cold : List Nat := []
  /-- slices whose tail keeps the right -/
  tails : List Nat := []
  /-- a nil slice is plain data -/
  plain : Bool := false
  Γd : Nat → Option De := fun _ => none
  Γo : Nat → Option Oq := fun _ => none

def Ctx.te (C : Ctx) (t : Nat) : Option TE := lookO C.tab t

def ofV : Value → S
  | .bool b => .dat .bool b
  | .int k n => .dat (.int k) n
  | .string s => .dat .str s
  | .slice none n c => bif Nat.beq n 0 && Nat.beq c 0 then .nil else .poison
  | .nilFunc => .nilf
  | _ => .poison

def St.ev (s : St) : Operand → S
  | .tmp t => look .poison s.slots t
  | .const v => ofV v
  | .func f => .fref f
  | .global _ => .poison

/-- A slot's value as data of a type. -/
def asD (τ : Ty) : S → Option τ.den
  | .dat σ x => castD σ τ x
  | .lst _ e x => castD (.slc e) τ x
  | .nil => match τ with
    | .slc _ => some []
    | _ => none
  | _ => none

structure Eff where
  val : S
  hw : List (Nat × HC) := []
  rd : List Nat := []

/-- With other effects ahead. -/
def Eff.lay (e : Eff) (hw : List (Nat × HC)) (rd : List Nat) : Eff := { val := e.val, hw := e.hw ++ hw, rd := e.rd ++ rd }

/-- What an operation comes to: none; one effect, if a test holds; the effect of a result, if there is any. -/
inductive Out where
  | fail
  | ok (pre : Bool) (e : Eff)
  | call (α : Type) (o : Option α) (mk : α → Eff)
  | callO (α : Type) (o : Option α) (mk : α → Option Eff)
  | emit (es : List Ty) (x : dens es)

/-- What a loop's body is handed: one more ahead of the others; none. -/
structure EmR (R : Type) where
  cons : (es : List Ty) → dens es → R → Option R
  nil : R → Bool
def EmR.no (R : Type) : EmR R := ⟨fun _ _ _ => none, fun _ => false⟩

def beqTys : List Ty → List Ty → Bool
  | [], [] => true
  | x :: xs, y :: ys => x.beq y && beqTys xs ys
  | _, _ => false
theorem tysEq : ∀ {a b : List Ty}, beqTys a b = true → a = b
  | [], [], _ => rfl
  | x :: xs, y :: ys, h => by
    simp only [beqTys, Bool.and_eq_true] at h
    rw [Ty.eq_of_beq h.1, tysEq h.2]
  | [], _ :: _, h => by simp [beqTys] at h
  | _ :: _, [], h => by simp [beqTys] at h
/-- Data of types as of others. -/
def castDs (es es' : List Ty) (x : dens es) : Option (dens es') := if h : beqTys es es' = true then some (tysEq h ▸ x) else none
def castSeq (es es' : List Ty) (x : List (dens es)) : Option (List (dens es')) := if h : beqTys es es' = true then some (tysEq h ▸ x) else none
def EmR.seq (es : List Ty) : EmR (List (dens es)) := ⟨fun es' x r => (castDs es' es x).map (· :: r), List.isEmpty⟩

def obind {α β : Type} (o : Option α) (k : α → Option β) : Option β := match o with
  | some a => k a
  | none => none
theorem obind_some {α β : Type} (a : α) (k : α → Option β) : obind (some a) k = k a := rfl
theorem obind_none {α β : Type} (k : α → Option β) : obind none k = none := rfl
def Out.run {R : Type} (em : EmR R) : Out → (Eff → Option R) → Option R
  | .fail, _ => none
  | .ok pre e, K => bif pre then K e else none
  | .call _ o mk, K => obind o fun r => K (mk r)
  | .callO _ o mk, K => obind o fun r => obind (mk r) K
  | .emit es x, K => obind (K { val := .dat .bool false }) fun r => bif em.nil r then obind (K { val := .dat .bool true }) fun r => em.cons es x r else none

def Out.lay (hw : List (Nat × HC)) (rd : List Nat) : Out → Out
  | .fail => .fail
  | .ok p e => .ok p (e.lay hw rd)
  | .call α o mk => .call α o fun r => (mk r).lay hw rd
  | .callO α o mk => .callO α o fun r => match mk r with
    | some e => some (e.lay hw rd)
    | none => none
  | .emit _ _ => .fail

def Out.val (v : S) : Out := .ok true { val := v }
def Out.opt : Option S → Out
  | some v => .ok true { val := v }
  | none => .fail

/-! ### operations -/
def bitsI (op : BinOp) (k : IntKind) (x y : Int) : Int :=
  let a := BitVec.ofInt k.bits x
  let b := BitVec.ofInt k.bits y
  match op with
  | .and => k.wrap ((a &&& b).toNat : Int)
  | .or => k.wrap ((a ||| b).toNat : Int)
  | .xor => k.wrap ((a ^^^ b).toNat : Int)
  | _ => k.wrap ((a &&& ~~~b).toNat : Int)

def beqL {α : Type} (f : α → α → Bool) : List α → List α → Bool
  | [], [] => true
  | x :: xs, y :: ys => f x y && beqL f xs ys
  | _, _ => false

def beqT : (τ : Ty) → τ.den → τ.den → Bool
  | .int _, x, y => (x : Int) == y
  | .bool, x, y => (x : Bool) == y
  | .str, x, y => (x : ByteArray) == y
  | .unit, _, _ => true
  | .one a, x, y => beqT a x y
  | .pair a b, x, y => beqT a x.1 y.1 && beqT b x.2 y.2
  | .arr _ e, x, y => beqL (beqT e) x y
  | .slc _, _, _ => false

/-- Can values of this type be compared? -/
def Ty.eqs : Ty → Bool
  | .slc _ => false
  | .one a => a.eqs
  | .pair a b => a.eqs && b.eqs
  | .arr _ e => e.eqs
  | _ => true

def Ty.depth : Ty → Nat
  | .one a => a.depth + 1
  | .pair a b => max a.depth b.depth + 1
  | .arr _ e => e.depth + 1
  | _ => 0

def shlI (k : IntKind) (x y : Int) : Int := k.wrap (x * 2 ^ (min y.toNat k.bits))
def shrI (k : IntKind) (x y : Int) : Int := x.fdiv (2 ^ (min y.toNat k.bits))

def binI (op : BinOp) (k : IntKind) (a b : Int) : Out :=
  match op with
  | .add => .val (.dat (.int k) (k.wrap (a + b)))
  | .sub => .val (.dat (.int k) (k.wrap (a - b)))
  | .mul => .val (.dat (.int k) (k.wrap (a * b)))
  | .quo => .ok (!(b == 0)) { val := .dat (.int k) (k.wrap (a.tdiv b)) }
  | .rem => .ok (!(b == 0)) { val := .dat (.int k) (a.tmod b) }
  | .and => .val (.dat (.int k) (bitsI .and k a b))
  | .or => .val (.dat (.int k) (bitsI .or k a b))
  | .xor => .val (.dat (.int k) (bitsI .xor k a b))
  | .andNot => .val (.dat (.int k) (bitsI .andNot k a b))
  | .eql => .val (.dat .bool (a == b))
  | .neq => .val (.dat .bool (a != b))
  | .lss => .val (.dat .bool (decide (a < b)))
  | .leq => .val (.dat .bool (decide (a ≤ b)))
  | .gtr => .val (.dat .bool (decide (a > b)))
  | .geq => .val (.dat .bool (decide (a ≥ b)))
  | _ => .fail

def shiftI (op : BinOp) (k : IntKind) (a b : Int) : Out :=
  match op with
  | .shl => .ok (!(decide (b < 0))) { val := .dat (.int k) (shlI k a b) }
  | .shr => .ok (!(decide (b < 0))) { val := .dat (.int k) (shrI k a b) }
  | _ => .fail

def isShift : BinOp → Bool
  | .shl | .shr => true
  | _ => false

/-- '==', '!=' of values that are no integers. -/
def eqS (op : BinOp) (a b : Bool) : Out := match op with
  | .eql => .val (.dat .bool a)
  | .neq => .val (.dat .bool b)
  | _ => .fail

def binS (C : Ctx) (op : BinOp) (t : Nat) : S → S → Out
  | .dat (.int k) a, .dat (.int l) b => bif isShift op then shiftI op k a b else bif kindEq k l then binI op k a b else .fail
  | .dat .bool a, .dat .bool b => bif (match C.te t with | some te => te.ty.beq .bool | none => false) then eqS op ((a : Bool) == b) (!((a : Bool) == b)) else .fail
  | .dat .str a, .dat .str b => eqS op ((a : ByteArray) == b) (!((a : ByteArray) == b))
  | .dat σ x, .dat σ' y => match C.te t with
    | some te => match castD σ te.ty x, castD σ' te.ty y with
      | some x, some y => bif te.ty.agg && (te.ty.eqs && Nat.blt te.ty.depth 9999) then eqS op (beqT te.ty x y) (!(beqT te.ty x y)) else .fail
      | _, _ => .fail
    | none => .fail
  | .fn _ _ _, .nilf => bif mem t C.fts then eqS op false true else .fail
  | .seq _ _, .nilf => bif mem t C.fts then eqS op false true else .fail
  | .fref _, .nilf => bif mem t C.fts then eqS op false true else .fail
  | .nil, .nil => match C.te t with
    | some te => match te.ty with
      | .slc _ => eqS op true false
      | _ => .fail
    | none => .fail
  | .lst .nn _ _, .nil => match C.te t with
    | some te => match te.ty with
      | .slc _ => eqS op false true
      | _ => .fail
    | none => .fail
  | _, _ => .fail

def unS (op : UnOp) : S → Out
  | .dat .bool b => match op with
    | .not => .val (.dat .bool (!(b : Bool)))
    | _ => .fail
  | .dat (.int k) n => match op with
    | .neg => .val (.dat (.int k) (k.wrap (0 - n)))
    | .xor => .val (.dat (.int k) (bitsI .xor k (if k.signed then -1 else k.max) n))
    | _ => .fail
  | _ => .fail

/-- Bytes as a string. -/
def bytesOf (xs : List Int) : ByteArray := xs.foldl (fun r n => r.push (UInt8.ofNat n.toNat)) ByteArray.empty
def convS (C : Ctx) (src dst : Nat) : S → Out
  | .dat (.int _) n => match C.te src, C.te dst with
    | some _, some te => match te.ty with
      | .int k => .val (.dat (.int k) (k.wrap n))
      | _ => .fail
    | _, _ => .fail
  | x => match asD (.slc (.int .u8)) x, C.te src, C.te dst with
    | some xs, some ts, some te => bif ts.ty.beq (.slc (.int .u8)) && te.ty.beq .str then .val (.dat .str (bytesOf xs)) else .fail
    | _, _, _ => .fail

/-- What a variable holds at its begin. -/
def zeroC : Ty → S
  | .slc e => .lst .clip e []
  | τ => .dat τ τ.zero

/-- The next number of a variable's name; of a right's. -/
def nextBox (s : St) (id : Nat) : Option Nat := match lookO s.heap id with
  | some (.box n _ _) => some (n + 1)
  | some (.tok _) => none
  | none => some 0
def nextTok (s : St) (id : Nat) : Option Nat := match lookO s.heap id with
  | some (.box _ _ _) => none
  | some (.tok n) => some (n + 1)
  | none => some 0

def tokId (d : Nat) : Nat := d + 100000

/-- What a slot's value is as a variable's content. -/
def contentOf (τ : Ty) (v : S) : Option S :=
  match v with
  | .lst g e x => bif (Ty.slc e).beq τ then some (.lst g e x) else none
  | .nil => match τ with
    | .slc e => some (.lst .clip e [])
    | _ => none
  | v => (asD τ v).map fun x => .dat τ x

def setFields (τ : Ty) (nf : Nat) : τ.den → List (Nat × S) → Option τ.den
  | x, [] => some x
  | x, (i, v) :: l => (fldGet nf i τ x).bind fun d => (asD d.1 v).bind fun y => (fldSet nf i τ x ⟨d.1, y⟩).bind fun x' => setFields τ nf x' l

def setItems (e : Ty) : List e.den → List (Nat × S) → Option (List e.den)
  | x, [] => some x
  | x, (i, v) :: l => (asD e v).bind fun y => bif Nat.blt i x.length then setItems e (x.set i y) l else none

def buildS (C : Ctx) (t : Nat) (parts : List (Nat × S)) : Out :=
  match C.te t with
  | some te => match te.ty with
    | .arr n e => .opt ((setItems e (List.replicate n e.zero) parts).map fun x => .dat (.arr n e) x)
    | _ => bif te.ty.agg then .opt ((setFields te.ty te.nf te.ty.zero parts).map fun x => .dat te.ty x) else .fail
  | none => .fail

def buildSliceS (C : Ctx) (t len : Nat) (parts : List (Nat × S)) : Out :=
  match C.te t with
  | some te => match te.ty with
    | .slc e => bif Nat.ble (len * e.size) 16777216 && Nat.ble 1 e.size then .opt ((setItems e (List.replicate len e.zero) parts).map fun x => .lst .clip e x) else .fail
    | _ => .fail
  | none => .fail

/-- A variable's content by its name and number. -/
def St.box (s : St) (id n : Nat) : Option (Bool × S) := match lookO s.heap id with
  | some (.box m fz c) => bif Nat.beq m n then some (fz, c) else none
  | _ => none

/-- The same, without a right at a path. -/
def St.boxD (s : St) (id n : Nat) : Option (Bool × S) := match s.box id n with
  | some (fz, c) => some (fz, unfat c)
  | none => none
/-- What a variable holds behind a store at a path. -/
def fatOf (C : Ctx) (id : Nat) (π : List Step) (v : S) (d : D) : S :=
  bif mem id C.fats then match pathGet π d with
    | some ⟨.slc e, ys⟩ => match v with
      | .lst .clip _ _ => .fat d.1 d.2 π .clip e ys
      | .nil => .fat d.1 d.2 π .clip e ys
      | .lst (.tip T n) e' _ => bif e'.beq e then .fat d.1 d.2 π (.tip T n) e ys else .dat d.1 d.2
      | _ => .dat d.1 d.2
    | _ => .dat d.1 d.2
  else .dat d.1 d.2

def tyIs (C : Ctx) (t : Nat) (τ : Ty) : Bool := match C.te t with
  | some te => te.ty.beq τ
  | none => false

def loadS (C : Ctx) (s : St) (t : Nat) : S → Out
  | .ptr id n root π => match s.box id n with
    | some (_, .fat σ x π0 g e ys) => bif pathBeq π π0 then (bif tyIs C t (.slc e) && σ.beq root then .ok true { val := .lst g e ys, rd := [id] } else .fail) else match pathGet π ⟨σ, x⟩ with
      | some ⟨τ, y⟩ => bif tyIs C t τ && σ.beq root then .ok true { val := .dat τ y, rd := [id] } else .fail
      | none => .fail
    | some (_, .dat σ x) => match pathGet π ⟨σ, x⟩ with
      | some ⟨τ, y⟩ => bif tyIs C t τ && σ.beq root then .ok true { val := .dat τ y, rd := [id] } else .fail
      | none => .fail
    | some (_, .lst g e x) => match π with
      | [] => bif tyIs C t (.slc e) then .ok true { val := .lst g e x, rd := [id] } else .fail
      | _ => .fail
    | some (_, .fn ps rs g) => match π with
      | [] => bif mem t C.fts then .ok true { val := .fn ps rs g, rd := [id] } else .fail
      | _ => .fail
    | some (_, .ptr id' n' root' π') => match π with
      | [] => bif mem t C.pts then .ok true { val := .ptr id' n' root' π', rd := [id] } else .fail
      | _ => .fail
    | some (_, .seq es xs) => match π with
      | [] => bif mem t C.fts then .ok true { val := .seq es xs, rd := [id] } else .fail
      | _ => .fail
    | some (_, .yld es) => match π with
      | [] => bif mem t C.fts then .ok true { val := .yld es, rd := [id] } else .fail
      | _ => .fail
    | _ => .fail
  | .cptr τ x => bif tyIs C t τ then .val (.dat τ x) else .fail
  | .eptr id n e i π => match s.box id n with
    | some (_, .row e' xs) => match pathGet π ⟨e', List.getD xs i e'.zero⟩ with
      | some ⟨τ, y⟩ => bif tyIs C t τ && e'.beq e then .ok true { val := .dat τ y, rd := [id] } else .fail
      | none => .fail
    | _ => .fail
  | _ => .fail

def storeS (C : Ctx) (s : St) (t : Nat) (v : S) : S → Out
  | .ptr id n root π => match s.boxD id n with
    | some (false, .dat σ x) => match C.te t with
      | some te => match asD te.ty v with
        | some y => match pathGet π ⟨σ, x⟩ with
          | some ⟨τ, _⟩ => match pathSet π ⟨σ, x⟩ ⟨te.ty, y⟩ with
            | some ⟨σ', x'⟩ => bif te.ty.beq τ && σ'.beq root && σ.beq root then .ok true { val := .poison, hw := [(id, .box n false (fatOf C id π v ⟨σ', x'⟩))], rd := [id] } else .fail
            | none => .fail
          | none => .fail
        | none => .fail
      | none => .fail
    | some (false, .lst _ e _) => match π with
      | [] => bif tyIs C t (.slc e) then match contentOf (.slc e) v with
        | some c => .ok true { val := .poison, hw := [(id, .box n false c)], rd := [id] }
        | none => .fail
        else .fail
      | _ => .fail
    | _ => .fail
  | .eptr id n e i π => match s.box id n with
    | some (false, .row e' xs) => match C.te t with
      | some te => match asD te.ty v with
        | some y => match pathGet π ⟨e', List.getD xs i e'.zero⟩ with
          | some ⟨τ, _⟩ => match pathSet π ⟨e', List.getD xs i e'.zero⟩ ⟨te.ty, y⟩ with
            | some ⟨σ', x'⟩ => match castD σ' e' x' with
              | some x' => bif te.ty.beq τ && e'.beq e then .ok true { val := .poison, hw := [(id, .box n false (.row e' (List.set xs i x')))], rd := [id] } else .fail
              | none => .fail
            | none => .fail
          | none => .fail
        | none => .fail
      | none => .fail
    | _ => .fail
  | _ => .fail

/-- The address of a part. -/
def partPtr (st : Step) : S → Out
  | .ptr id n root π => .val (.ptr id n root (π ++ [st]))
  | .eptr id n e i π => .val (.eptr id n e i (π ++ [st]))
  | .cptr τ x => match stepGet st ⟨τ, x⟩ with
    | some ⟨σ, y⟩ => .val (.cptr σ y)
    | none => .fail
  | _ => .fail

/-- What a pointer points to is of this type. -/
def pointee : S → Option Ty
  | .ptr _ _ root π => pathTy π root
  | .cptr τ _ => some τ
  | .eptr _ _ e _ π => pathTy π e
  | _ => none

def fieldAddrS (C : Ctx) (t f : Nat) (x : S) : Out :=
  match C.te t, pointee x with
  | some te, some τ => bif te.ty.beq τ && (fldTy te.nf f te.ty).isSome then partPtr (.fld te.nf f) x else .fail
  | _, _ => .fail

def inRange (i : Int) (n : Nat) : Bool := decide (0 ≤ i) && decide (i < n)

def Out.under (pre : Bool) : Out → Out
  | .ok p e => .ok (p && pre) e
  | _ => .fail

def indexAddrS (C : Ctx) (t : Nat) (x i : S) : Out :=
  match i with
  | .dat (.int _) i => match C.te t with
    | some te => match te.ty with
      | .arr n e => match pointee x with
        | some τ => bif (Ty.arr n e).beq τ && Nat.ble 2 n then (partPtr (.idx (Int.toNat i)) x).under (inRange i n) else .fail
        | none => .fail
      | .slc e => match asD (.slc e) x with
        | some xs => .ok (inRange i (List.length xs)) { val := .cptr e (List.getD xs (Int.toNat i) e.zero) }
        | none => .fail
      | _ => .fail
    | none => .fail
  | _ => .fail

def indexAddrV (C : Ctx) (s : St) (t : Nat) (x i : S) : Out := match x with
  | .vec id n e => match i with
    | .dat (.int _) i => match s.box id n, C.te t with
      | some (_, .row e' xs), some te => bif te.ty.beq (.slc e) && e'.beq e then .ok (inRange i (List.length xs)) { val := .eptr id n e (Int.toNat i) [], rd := [id] } else .fail
      | _, _ => .fail
    | _ => .fail
  | x => indexAddrS C t x i

/-- A new slice. -/
def makeSliceI (C : Ctx) (s : St) (d : Option Nat) (t : Nat) (l c : Int) : Out := match d, C.te t with
  | some d, some te => match te.ty, nextBox s d with
    | .slc e, some n => bif Nat.ble 1 e.size && Nat.ble 1 te.bytes then
        .ok (decide (0 ≤ l) && (decide (l ≤ c) && decide (c * te.bytes ≤ 281474976710656)))
          { val := .vec d n e, hw := [(d, .box n false (.row e (List.replicate (Int.toNat l) e.zero)))], rd := [d] }
      else .fail
    | _, _ => .fail
  | _, _ => .fail
def makeSliceS (C : Ctx) (s : St) (d : Option Nat) (t : Nat) (l c : S) : Out := match l, c with
  | .dat (.int _) l, .dat (.int _) c => makeSliceI C s d t l c
  | _, _ => .fail

/-- Slices of the run's own as data: what is handed out is written no more. -/
def thaw (s : St) : List S → Option (List S × List (Nat × HC) × List Nat)
  | [] => some ([], [], [])
  | .vec id n e :: l => match s.box id n with
    | some (_, .row e' xs) => bif e'.beq e then (match thaw s l with
        | some (a, b, c) => some (.dat (.slc e') xs :: a, (id, .box n true (.row e' xs)) :: b, id :: c)
        | none => none) else none
    | _ => none
  | v :: l => match thaw s l with
    | some (a, b, c) => some (v :: a, b, c)
    | none => none
/-- An operation over values that may be slices of the run's own. -/
def thawed (s : St) (l : List S) (f : St → List S → Out) : Out := match thaw s l with
  | some (vs, [], _) => f s vs
  | some (vs, h :: hw, rd) => (f { slots := s.slots, heap := h :: hw ++ s.heap } vs).lay (h :: hw) rd
  | none => .fail
def vtok (id : Nat) : Nat := id + 300000
/-- A slice of the run's own becomes one that has the right to its room. -/
def untie (s : St) (id n : Nat) (e : Ty) : Option (S × List (Nat × HC) × List Nat) := match s.box id n, nextTok s (vtok id) with
  | some (false, .row e' xs), some k => bif e'.beq e then some (.lst (.tip (vtok id) k) e' xs, [(vtok id, .tok k), (id, .box (n + 1) true (.row .unit []))], [vtok id, id]) else none
  | _, _ => none
/-- The same, of the first of some values. -/
def untied (s : St) (l : List S) (f : St → List S → Out) : Out := match l with
  | .vec id n e :: l => match untie s id n e with
    | some (u, hw, rd) => (f { slots := s.slots, heap := hw ++ s.heap } (u :: l)).lay hw rd
    | none => .fail
  | l => f s l
def flatTy : Ty → Bool
  | .slc _ => false
  | .one a => flatTy a
  | .pair a b => flatTy a && flatTy b
  | .arr _ e => flatTy e
  | _ => true

def fieldS (C : Ctx) (t f : Nat) : S → Out
  | .dat σ x => match C.te t with
    | some te => match castD σ te.ty x with
      | some x => .opt ((fldGet te.nf f te.ty x).map fun d => .dat d.1 d.2)
      | none => .fail
    | none => .fail
  | _ => .fail

def indexS (C : Ctx) (t : Nat) (x i : S) : Out :=
  match i, x, C.te t with
  | .dat (.int _) i, .dat σ x, some te => match te.ty with
    | .arr n e => match castD σ (.arr n e) x with
      | some xs => .ok (inRange i n) { val := .dat e (List.getD xs (Int.toNat i) e.zero) }
      | none => .fail
    | .str => match castD σ .str x with
      | some b => .ok (inRange i (ByteArray.size b)) { val := .dat (.int .u8) ((ByteArray.data b).getD (Int.toNat i) 0).toNat }
      | none => .fail
    | _ => .fail
  | _, _, _ => .fail

/-- An optional bound. -/
def boundS (s : St) : Option Operand → Option (Option Int)
  | none => some none
  | some x => match s.ev x with
    | .dat (.int _) i => some (some i)
    | _ => none

def sub {α : Type} (xs : List α) (l h : Nat) : List α := (xs.take h).drop l

def sliceList (e : Ty) (xs : List e.den) (whole : Bool) (lo hi mx : Option Int) : Out :=
  let n : Int := xs.length
  let l := lo.getD 0
  match hi, mx with
  | none, none => .ok (decide (0 ≤ l) && decide (l ≤ n)) { val := bif whole then .lst .clip e (xs.drop l.toNat) else .dat (.slc e) (xs.drop l.toNat) }
  | some h, none => .ok (decide (0 ≤ l) && (decide (l ≤ h) && decide (h ≤ n))) { val := .dat (.slc e) (sub xs l.toNat h.toNat) }
  | some h, some m => .ok (decide (0 ≤ l) && (decide (l ≤ h) && (decide (h = m) && decide (h ≤ n)))) { val := .lst .clip e (sub xs l.toNat h.toNat) }
  | none, some _ => .fail

/-- A slice without room. -/
def isClip : S → Bool
  | .lst .clip _ _ => true
  | .nil => true
  | _ => false
def sliceS (C : Ctx) (s : St) (t : Nat) (x : S) (lo hi mx : Option Operand) : Out :=
  match boundS s lo, boundS s hi, boundS s mx, C.te t with
  | some lo, some hi, some mx, some te => match te.ty with
    | .slc e => match asD (.slc e) x with
      | some xs => sliceList e xs (isClip x) lo hi mx
      | none => .fail
    | .arr n e => match x with
      | .ptr id k root [] => match s.box id k with
        | some (_, .dat σ y) => match castD σ (.arr n e) y with
          | some ys => bif σ.beq root then match sliceList e ys true lo hi mx with
            | .ok pre ef => .ok pre { ef with hw := [(id, .box k true (.dat σ y))], rd := [id] }
            | _ => .fail
            else .fail
          | none => .fail
        | _ => .fail
      | _ => .fail
    | .str => match mx with
      | none => match asD .str x with
        | some b => .ok (decide (0 ≤ lo.getD 0) && (decide (lo.getD 0 ≤ hi.getD (ByteArray.size b)) && decide (hi.getD (ByteArray.size b) ≤ (ByteArray.size b : Int))))
            { val := .dat .str (ByteArray.extract b (lo.getD 0).toNat (hi.getD (ByteArray.size b)).toNat) }
        | none => .fail
      | some _ => .fail
    | _ => .fail
  | _, _, _, _ => .fail

def lenS (C : Ctx) (t : Nat) (x : S) : Out :=
  match C.te t with
  | some te => match te.ty with
    | .slc e => match asD (.slc e) x with
      | some xs => .val (.dat (.int .i64) (List.length xs : Int))
      | none => .fail
    | .str => match asD .str x with
      | some b => .val (.dat (.int .i64) (ByteArray.size b : Int))
      | none => .fail
    | .arr n _ => .val (.dat (.int .i64) (n : Int))
    | _ => .fail
  | none => .fail

def lenV (C : Ctx) (s : St) (t : Nat) (x : S) : Out := match x with
  | .vec id n e => match s.box id n, C.te t with
    | some (_, .row e' xs), some te => bif te.ty.beq (.slc e) && e'.beq e then .ok true { val := .dat (.int .i64) (List.length xs : Int), rd := [id] } else .fail
    | _, _ => .fail
  | x => lenS C t x

def minI (x y : Int) : Int := if y < x then y else x
def maxI (x y : Int) : Int := if y > x then y else x
def foldI (f : Int → Int → Int) (k : IntKind) : Int → List S → Option Int
  | a, [] => some a
  | a, .dat (.int l) b :: r => bif kindEq k l then foldI f k (f a b) r else none
  | _, _ => none
def minmaxS (f : Int → Int → Int) : List S → Out
  | .dat (.int k) a :: r => .opt ((foldI f k a r).map fun n => .dat (.int k) n)
  | _ => .fail

/-- The right to write behind a slice. -/
def tipOf (s : St) : S → Option (List (Nat × HC) × List Nat)
  | .nil => some ([], [])
  | .lst .clip _ _ => some ([], [])
  | .lst (.tip T n) _ _ => match lookO s.heap T with
    | some (.tok m) => bif Nat.beq m n then some ([(T, .tok (n + 1))], [T]) else none
    | _ => none
  | _ => none

def appendS (C : Ctx) (s : St) (d : Option Nat) (ts : List Nat) (xs : List S) : Out :=
  match d, ts, xs with
  | some d, [t, t'], [x, y] => match C.te t with
    | some te => match te.ty with
      | .slc e => match tipOf s x, asD (.slc e) x, asD (.slc e) y, nextTok s (tokId d) with
        | some (hw, rd), some xs, some ys, some n =>
          bif Nat.beq t t' && (Nat.ble 1 e.size && (Nat.ble 1 te.bytes && (lookO hw (tokId d)).isNone)) then .ok (decide ((List.length xs + List.length ys) * te.bytes ≤ 140737488355328))
            { val := .lst (.tip (tokId d) n) e (xs ++ ys), hw := (tokId d, .tok n) :: hw, rd := tokId d :: rd }
          else .fail
        | _, _, _, _ => .fail
      | _ => .fail
    | none => .fail
  | _, _, _ => .fail

/-- Arguments as what a function takes. -/
def asP : (p : PTy) → S → Option p.den
  | .data τ, v => asD τ v
  | .cptr τ, .cptr σ x => castD σ τ x
  | .cptr _, _ => none
  | .fnp ps rs, .fn ps' rs' g => if h : beqTys ps' ps = true ∧ beqTys rs' rs = true then some (by
      have h1 : ps' = ps := tysEq h.1
      have h2 : rs' = rs := tysEq h.2
      exact h1 ▸ h2 ▸ g) else none
  | .fnp _ _, _ => none
  | .seqp es, .seq es' xs => castSeq es' es xs
  | .seqp _, _ => none
  | .nils _, .nil => some ()
  | .nils _, _ => none
def asPs : (ps : List PTy) → List S → Option (pdens ps)
  | [], [] => some ()
  | [p], [v] => asP p v
  | p :: q :: ps, v :: vs => (asP p v).bind fun x => (asPs (q :: ps) vs).map fun y => (x, y)
  | _, _ => none
def asDs : (ps : List Ty) → List S → Option (dens ps)
  | [], [] => some ()
  | [p], [v] => asD p v
  | p :: q :: ps, v :: vs => (asD p v).bind fun x => (asDs (q :: ps) vs).map fun y => (x, y)
  | _, _ => none

/-- A result in a slot: one fresh list has the right to its room. -/
def resS (T n : Nat) (first : Bool) : (r : RTy) → r.den → S
  | .data τ, x => .dat τ x
  | .fresh e, x => bif first then .lst (.tip T n) e x else .dat (.slc e) x
  | .own _, _ => .poison
  | .oncer _, _ => .poison
  | .seqr es, x => .seq es x
  | .fnr ps rs, x => .fn ps rs x
def RTy.isFresh : RTy → Bool
  | .fresh _ => true
  | _ => false
/-- Does the result have a right? -/
def RTy.held : RTy → Bool
  | .fresh _ => true
  | .own _ => true
  | .oncer _ => true
  | _ => false
def resList (T n : Nat) : (first : Bool) → (rs : List RTy) → rdens rs → List S
  | _, [], _ => []
  | f, [r], x => [resS T n f r x]
  | f, r :: q :: rs, x => resS T n f r x.1 :: resList T n (f && !r.isFresh) (q :: rs) x.2
def resVal (l : List S) : S := match l with
  | [v] => v
  | l => .tup l
/-- The right that a call's result has: none; a name and a number. -/
def resTok (s : St) (d : Option Nat) (rs : List RTy) : Option (Option (Nat × Nat)) :=
  bif rs.any RTy.isFresh then match d with
    | some d => match nextTok s (tokId d) with
      | some n => some (some (tokId d, n))
      | none => none
    | none => some none
  else some none
def resEff (tk : Option (Nat × Nat)) (rs : List RTy) (r : rdens rs) : Eff :=
  match tk with
  | some (T, n) => { val := resVal (resList T n true rs r), hw := [(T, .tok n)], rd := [T] }
  | none => { val := resVal (resList 0 0 false rs r) }

def rdata : List Ty → List RTy
  | [] => []
  | τ :: l => .data τ :: rdata l
theorem rdens_rdata : ∀ l, rdens (rdata l) = dens l
  | [] => rfl
  | [_] => rfl
  | a :: b :: l => by
    have h : rdens (rdata (b :: l)) = dens (b :: l) := rdens_rdata (b :: l)
    simp only [rdata] at h
    simp only [rdata, rdens, dens, RTy.den, h]

def densList : (rs : List Ty) → dens rs → List S
  | [], _ => []
  | [r], x => [.dat r x]
  | r :: q :: rs, x => .dat r x.1 :: densList (q :: rs) x.2

/-- The pointers that a closure takes are written no more. -/
def freeze (s : St) : List S → Option (List S × List (Nat × HC) × List Nat)
  | [] => some ([], [], [])
  | .ptr id n root [] :: l => match s.box id n with
    | some (_, .dat σ x) => bif σ.beq root then (freeze s l).map fun (a, b, c) => (.cptr σ x :: a, (id, .box n true (.dat σ x)) :: b, id :: c) else none
    | some (_, .lst g e x) => (freeze s l).map fun (a, b, c) => (.cptr (.slc e) x :: a, (id, .box n true (.lst g e x)) :: b, id :: c)
    | some (_, .fn _ _ _) => none
    | _ => none
  | v :: l => (freeze s l).map fun (a, b, c) => (v :: a, b, c)

def makeFuncS (C : Ctx) (s : St) (f : Fn) (first caps : List S) : Out :=
  match f with
  | .func f => match C.Γc f with
    | some cl => match first, freeze s caps with
      | [], some (vs, hw, rd) => match asPs cl.caps vs with
        | some cs => .ok true { val := .fn cl.ps cl.rs (fun xs => cl.g xs cs), hw, rd }
        | none => .fail
      | _, _ => .fail
    | none => match C.Γs f, freeze s caps with
      | some sq, some (vs, hw, rd) => match asPs sq.firsts first, asPs sq.caps vs with
        | some a, some b => .call _ (sq.g a b) fun xs => { val := .seq sq.es xs, hw, rd }
        | _, _ => .fail
      | _, _ => .fail
  | _ => .fail

/-- An iterator that takes a variable with it. -/
def makeOnce (s : St) (oq : Oq) (d : Option Nat) (first caps : List S) : Out :=
  match d, first, caps with
  | some d, [], [.ptr id n root []] => match s.box id n, nextBox s d with
    | some (false, .dat σ x), some k => match castD σ oq.τ x with
      | some x => bif σ.beq root && !Nat.beq d id then .call _ (oq.g x) fun xs => { val := .once d k, hw := [(d, .box k false (.inn oq.es xs)), (id, .box (n + 1) true (.row .unit []))], rd := [d, id] } else .fail
      | none => .fail
    | _, _ => .fail
  | _, _, _ => .fail
def makeFuncO (C : Ctx) (s : St) (d : Option Nat) (f : Fn) (first caps : List S) : Out := match f with
  | .func i => match C.Γo i with
    | some oq => makeOnce s oq d first caps
    | none => makeFuncS C s f first caps
  | _ => .fail

/-- A function as a value. -/
def asFn (C : Ctx) : S → S
  | .fref f => match C.Γc f with
    | some cl => match asPs cl.caps [] with
      | some cs => .fn cl.ps cl.rs (fun xs => cl.g xs cs)
      | none => .poison
    | none => .poison
  | v => v

/-- A call that writes a variable of the run's own. -/
def callM (C : Ctx) (s : St) (em : Em) : List S → Out
  | .ptr id n root π :: xs => match s.boxD id n with
    | some (false, .dat σ x) => match pathGet π ⟨σ, x⟩, asPs em.ps (xs.map (asFn C)) with
      | some ⟨τ, y⟩, some a => match castD τ em.τ y with
        | some y => bif σ.beq root && (Nat.beq (pathOff π σ) 0 && (Nat.beq em.τ.size σ.size && !em.rs.any RTy.isFresh)) then
            .callO _ (em.g y a) fun p => (pathSet π ⟨σ, x⟩ ⟨em.τ, p.1⟩).map fun d =>
              { val := (resEff none em.rs p.2).val, hw := [(id, .box n false (.dat d.1 d.2))], rd := [id] }
          else .fail
        | none => .fail
      | _, _ => .fail
    | _ => .fail
  | _ => .fail

/-- The call of a function whose result is a slice of the run's own. -/
def callOwn (C : Ctx) (s : St) (d : Option Nat) (ps : List PTy) (e : Ty) (g : pdens ps → Option (List e.den)) (xs : List S) : Out :=
  match d, asPs ps (xs.map (asFn C)) with
  | some d, some a => match nextBox s d with
    | some n => .call _ (g a) fun r => { val := .vec d n e, hw := [(d, .box n false (.row e r))], rd := [d] }
    | none => .fail
  | _, _ => .fail
/-- The call of a function whose result is an iterator that is gone over once. -/
def callOnce (C : Ctx) (s : St) (d : Option Nat) (ps : List PTy) (es : List Ty) (g : pdens ps → Option (List (dens es))) (xs : List S) : Out :=
  match d, asPs ps (xs.map (asFn C)) with
  | some d, some a => match nextBox s d with
    | some n => .call _ (g a) fun r => { val := .once d n, hw := [(d, .box n false (.inn es r))], rd := [d] }
    | none => .fail
  | _, _ => .fail
def RTy.flat : RTy → Bool
  | .data τ => flatTy τ
  | _ => false
/-- Is it a call that hands back nothing of what it is handed? -/
def flatCall (C : Ctx) : S → Bool
  | .fref f => match C.Γ f with
    | some en => en.rs.all RTy.flat
    | none => false
  | _ => false
def callS (C : Ctx) (s : St) (d : Option Nat) (f : S) (xs : List S) : Out :=
  match f with
  | .fref f => match C.Γ f with
    | some ⟨ps, [.own e], g⟩ => callOwn C s d ps e g xs
    | some ⟨ps, [.oncer es], g⟩ => callOnce C s d ps es g xs
    | some en => match asPs en.ps (xs.map (asFn C)), resTok s d en.rs with
      | some a, some tk => .call _ (en.g a) (resEff tk en.rs)
      | _, _ => .fail
    | none => match C.Γm f with
      | some em => callM C s em xs
      | none => .fail
  | .fn ps rs g => match asDs ps xs with
    | some a => .call (rdens (rdata rs)) ((rdens_rdata rs).symm ▸ g a) (resEff none (rdata rs))
    | none => .fail
  | .yld es => match asDs es xs with
    | some a => .emit es a
    | none => .fail
  | _ => .fail

/-- What is lent to a call that hands back nothing of it: slices of the run's own; the addresses of its variables. -/
def lend (s : St) : List S → Option (List S × List (Nat × HC) × List Nat)
  | [] => some ([], [], [])
  | .vec id n e :: l => match s.box id n with
    | some (_, .row e' xs) => bif e'.beq e then (match lend s l with
        | some (a, b, c) => some (.dat (.slc e') xs :: a, (id, .box n true (.row e' xs)) :: b, id :: c)
        | none => none) else none
    | _ => none
  | .ptr id n root π :: l => match s.box id n with
    | some (_, k) => match unfat k with
      | .dat σ x => match pathGet π ⟨σ, x⟩ with
        | some ⟨τ, y⟩ => bif σ.beq root then (match lend s l with
          | some (a, b, c) => some (.cptr τ y :: a, (id, .box n true k) :: b, id :: c)
          | none => none) else none
        | none => none
      | _ => none
    | none => none
  | v :: l => match lend s l with
    | some (a, b, c) => some (v :: a, b, c)
    | none => none
/-- A call that takes a slice of the run's own, and keeps it. -/
def callD (C : Ctx) (s : St) (de : De) : List S → Out
  | .vec id n e :: xs => match s.box id n with
    | some (false, .row e' ys) => match castD (.slc e') (.slc de.e) ys, asPs de.ps (xs.map (asFn C)) with
      | some ys, some a => bif e'.beq e && !de.rs.any RTy.isFresh then
          .call _ (de.g ys a) fun r => { val := (resEff none de.rs r).val, hw := [(id, .box (n + 1) true (.row .unit []))], rd := [id] }
        else .fail
      | _, _ => .fail
    | _ => .fail
  | _ => .fail
def keeps (C : Ctx) : S → Option De
  | .fref f => C.Γd f
  | _ => none
/-- A call with slices of the run's own: what hands back nothing of them lends them alone. -/
def callW (C : Ctx) (s : St) (d : Option Nat) (f : S) (xs : List S) : Out := bif flatCall C f then match lend s xs with
    | some (vs, [], _) => callS C s d f vs
    | some (vs, h :: hw, rd) => (callS C { slots := s.slots, heap := h :: hw ++ s.heap } d f vs).lay [] rd
    | none => .fail
  else match thaw s xs with
    | some (vs, [], _) => callS C s d f vs
    | some (vs, h :: hw, rd) => (callS C { slots := s.slots, heap := h :: hw ++ s.heap } d f vs).lay (h :: hw) rd
    | none => .fail

def callV (C : Ctx) (s : St) (d : Option Nat) (f : S) (xs : List S) : Out := match keeps C f with
  | some de => callD C s de xs
  | none => callW C s d f xs

/-- A slice's tail that keeps the right, or that is the run's own. -/
def tailAt (C : Ctx) : Option Nat → Bool
  | some d => mem d C.tails
  | none => false
def tailI (s : St) (d : Nat) (t : Ty) (l : Int) : S → Out
  | .lst (.tip T n) e xs => match tipOf s (.lst (.tip T n) e xs), nextTok s (tokId d) with
    | some (hw, rd), some k => bif t.beq (.slc e) && (lookO hw (tokId d)).isNone then
        .ok (decide (0 ≤ l) && decide (l ≤ (List.length xs : Int))) { val := .lst (.tip (tokId d) k) e (xs.drop l.toNat), hw := (tokId d, .tok k) :: hw, rd := tokId d :: rd }
      else .fail
    | _, _ => .fail
  | .vec id n e => match s.box id n with
    | some (_, .row e' xs) => bif t.beq (.slc e) && e'.beq e then .ok (decide (0 ≤ l) && decide (l ≤ (List.length xs : Int))) { val := .vsub id n e l.toNat, rd := [id] } else .fail
    | _ => .fail
  | _ => .fail
def tailS (C : Ctx) (s : St) (d : Option Nat) (t : Nat) (x : S) (lo hi mx : Option Operand) : Out := match d, lo, hi, mx with
  | some d, some lo, none, none => match s.ev lo, C.te t with
    | .dat (.int _) l, some te => tailI s d te.ty l x
    | _, _ => .fail
  | _, _, _, _ => .fail
/-- The items of a slice of the run's own are made zero. -/
def clearS (C : Ctx) (s : St) (t : Nat) : S → Out
  | .vsub id n e lo => match s.box id n, C.te t with
    | some (false, .row e' xs), some te => bif te.ty.beq (.slc e) && e'.beq e then
        .ok true { val := .poison, hw := [(id, .box n false (.row e' (xs.take lo ++ List.replicate (List.length xs - lo) e'.zero)))], rd := [id] } else .fail
    | _, _ => .fail
  | _ => .fail

/-- Does an append make a slice of the run's own? -/
def ownAt (C : Ctx) : Option Nat → Bool
  | some d => mem d C.owns
  | none => false
/-- An append that makes a slice of the run's own. -/
def appendOwn (C : Ctx) (s : St) (d : Option Nat) (ts : List Nat) (xs : List S) : Out :=
  match d, ts, xs with
  | some d, [t, t'], [.lst .clip e' [], y] => match C.te t with
    | some te => match te.ty with
      | .slc e => match asD (.slc e) y, nextBox s d with
        | some ys, some n =>
          bif Nat.beq t t' && (e'.beq e && (Nat.ble 1 e.size && Nat.ble 1 te.bytes)) then .ok (decide ((List.length ([] : List e.den) + List.length ys) * te.bytes ≤ 140737488355328))
            { val := .vec d n e, hw := [(d, .box n false (.row e ys))], rd := [d] }
          else .fail
        | _, _ => .fail
      | _ => .fail
    | none => .fail
  | _, _, _ => .fail

def moveS (C : Ctx) (t : Nat) (x : Operand) (v : S) : S := match x, v with
  | .const _, .nil => match C.te t with
    | some te => match te.ty with
      | .slc e => bif C.plain then .dat (.slc e) ([] : List e.den) else .lst .clip e []
      | _ => .nil
    | none => .nil
  | _, v => v

def pickS (c a b : S) : Out := match c with
  | .dat .bool c => match a, b with
    | .dat σ x, .dat τ y => match castD τ σ y with
      | some y => .val (.dat σ (bif (c : Bool) then x else y))
      | none => .fail
    | _, _ => match (c : Bool) with
      | true => .val a
      | false => .val b
  | _ => .fail

def evalOp (C : Ctx) (o : Oper) (s : St) : Out :=
  match o.op with
  | .move x | .assign x => .val (moveS C o.type x (s.ev x))
  | .pick c a b => pickS (s.ev c) (s.ev a) (s.ev b)
  | .alloc t => match o.dst, C.te t with
    | some d, some te => match nextBox s d with
      | some n => .ok true { val := .ptr d n te.ty [], hw := [(d, .box n false (zeroC te.ty))], rd := [d] }
      | none => .fail
    | _, _ => .fail
  | .box t x => match o.dst with
    | some d => match nextBox s d with
      | some n => match C.te t with
        | some te => match contentOf te.ty (s.ev x) with
          | some c => .ok true { val := .ptr d n te.ty [], hw := [(d, .box n (mem d C.cold) c)], rd := [d] }
          | none => .fail
        | none => match s.ev x with
          | .fn ps rs g => .ok true { val := .ptr d n .unit [], hw := [(d, .box n false (.fn ps rs g))], rd := [d] }
          | .seq es xs => .ok true { val := .ptr d n .unit [], hw := [(d, .box n false (.seq es xs))], rd := [d] }
          | .ptr id' n' root' π' => .ok true { val := .ptr d n .unit [], hw := [(d, .box n false (.ptr id' n' root' π'))], rd := [d] }
          | .yld es => .ok true { val := .ptr d n .unit [], hw := [(d, .box n false (.yld es))], rd := [d] }
          | _ => .fail
      | none => .fail
    | none => .fail
  | .build t parts => thawed s (parts.toList.map fun p => s.ev p.2) fun _ vs => buildS C t ((parts.toList.map (·.1)).zip vs)
  | .buildSlice t len parts => thawed s (parts.toList.map fun p => s.ev p.2) fun _ vs => buildSliceS C t len ((parts.toList.map (·.1)).zip vs)
  | .load t a => loadS C s t (s.ev a)
  | .store t a x => thawed s [s.ev x] fun s1 vs => match vs with
    | [v] => storeS C s1 t v (s.ev a)
    | _ => .fail
  | .makeSlice t l c => makeSliceS C s o.dst t (s.ev l) (s.ev c)
  | .nilCheck x => match s.ev x with
    | .ptr id n root π => .val (.ptr id n root π)
    | .cptr τ x => .val (.cptr τ x)
    | .eptr id n e i π => .val (.eptr id n e i π)
    | .fn ps rs g => .val (.fn ps rs g)
    | .seq es xs => .val (.seq es xs)
    | _ => .fail
  | .binOp op t x y _ => binS C op t (s.ev x) (s.ev y)
  | .unOp op _ x => unS op (s.ev x)
  | .convert src dst x => convS C src dst (s.ev x)
  | .makeFunc f first caps => makeFuncO C s o.dst f (first.toList.map s.ev) (caps.toList.map s.ev)
  | .slice t x lo hi mx => bif tailAt C o.dst then tailS C s o.dst t (s.ev x) lo hi mx else thawed s [s.ev x] fun s1 vs => match vs with
    | [v] => sliceS C s1 t v lo hi mx
    | _ => .fail
  | .fieldAddr t x f => fieldAddrS C t f (s.ev x)
  | .field t x f => fieldS C t f (s.ev x)
  | .indexAddr t x i => indexAddrV C s t (s.ev x) (s.ev i)
  | .index t x i => indexS C t (s.ev x) (s.ev i)
  | .extract x i => match s.ev x with
    | .tup l => match l[i]? with
      | some v => .val v
      | none => .fail
    | _ => .fail
  | .call { callee := .builtin b, args, argTypes } => match b with
    | .len => match argTypes.toList, args.toList with
      | [t], [x] => lenV C s t (s.ev x)
      | _, _ => .fail
    | .append => untied s (args.toList.map s.ev) fun s0 vs0 => thawed s0 vs0 fun s1 vs => bif ownAt C o.dst then appendOwn C s1 o.dst argTypes.toList vs else appendS C s1 o.dst argTypes.toList vs
    | .clear => match argTypes.toList, args.toList, o.dst with
      | [t], [x], none => clearS C s t (s.ev x)
      | _, _, _ => .fail
    | .min => minmaxS minI (args.toList.map s.ev)
    | .max => minmaxS maxI (args.toList.map s.ev)
    | _ => .fail
  | .call { callee := .value f, args, .. } => callV C s o.dst (s.ev f) (args.toList.map s.ev)
  | _ => .fail

/-! ### regions -/
def St.put (s : St) (d : Option Nat) (v : S) : St := match d with
  | some d => { s with slots := (d, v) :: s.slots }
  | none => s
def St.app (s : St) (d : Option Nat) (e : Eff) : St := { slots := (s.put d e.val).slots, heap := e.hw ++ s.heap }

def dstOf (ops : Array Oper) (j : Nat) : Option Nat := (ops[j]?).bind (·.dst)

def dstOk (C : Ctx) : Option Nat → Bool
  | some d => Nat.blt d C.ntmps && !mem d C.pins
  | none => true

def isCallV : Op → Bool
  | .call { callee := .value _, args := _, argTypes := _ } => true
  | _ => false
/-- One operation, with its guard; the guard's slot holds, from then on, what it was asked for. -/
def step {R : Type} (em : EmR R) (C : Ctx) (ops : Array Oper) (o : Oper) (s : St) (K : Eff → St → Option R) : Option R :=
  bif dstOk C o.dst then
    match o.guard with
    | none => (evalOp C o s).run (bif isCallV o.op then em else EmR.no R) fun e => K e s
    | some (j, want) => match dstOf ops j with
      | some g => match look .poison s.slots g with
        | .dat .bool b => bif (b : Bool) == want
            then (evalOp C o { s with slots := (g, .dat .bool want) :: s.slots }).run (bif isCallV o.op then em else EmR.no R) fun e => K e { s with slots := (g, .dat .bool want) :: s.slots }
            else K { val := .gone } { s with slots := (g, .dat .bool (!want)) :: s.slots }
        | .gone => K { val := .gone } s
        | _ => none
      | none => none
  else none

/-- The operations in their order; what each read and wrote is handed on. -/
def stepAll {R : Type} (em : EmR R) (C : Ctx) (ops : Array Oper) : List Oper → St → List (List Nat × List Nat) → (List (List Nat × List Nat) → St → Option R) → Option R
  | [], s, fs, K => K fs s
  | o :: l, s, fs, K => step em C ops o s fun e s => stepAll em C ops l (s.app o.dst e) ((e.rd, e.hw.map (·.1)) :: fs) K

def addTo (l : List Nat) (k : Nat) : List Nat := bif mem k l then l else k :: l
def union (a l : List Nat) : List Nat := a.foldl addTo l
/-- The operations that one is behind, whatever the order. -/
def befores (ops : List Oper) : List (List Nat) :=
  ops.foldl (fun acc o => acc ++ [o.after.toList.foldl (fun l e => bif Region.binds .any e then union (acc.getD e.on []) (addTo l e.on) else l) []]) []

def meet : List Nat → List Nat → Bool
  | [], _ => false
  | k :: l, m => bif mem k m then true else meet l m

def usesOf (ops : Array Oper) (o : Oper) : List Nat := o.looksAt ops

/-- Two operations, the first one ahead in the text, may change places. -/
def calm (ops : Array Oper) (x y : Oper) (fx fy : List Nat × List Nat) : Bool :=
  (match x.dst with
    | some d => !mem d (usesOf ops y) && (match y.dst with | some d' => !Nat.beq d d' | none => true)
    | none => true) &&
  (match y.dst with
    | some d => !mem d (usesOf ops x)
    | none => true) &&
  !meet fx.2 fy.1 && !meet fx.2 fy.2 && !meet fx.1 fy.2

/-- Each two operations, of which none is behind the other, may change places. -/
def calmAll (ops : Array Oper) (fs : List (List Nat × List Nat)) : Bool :=
  let l := ops.toList
  let bs := befores l
  (List.range l.length).all fun j => (List.range j).all fun i =>
    mem i (bs.getD j []) || calm ops (l.getD i default) (l.getD j default) (fs.getD i ([], [])) (fs.getD j ([], []))

/-- Each edge leads to an operation ahead. -/
def aheadAll (ops : Array Oper) : Bool :=
  (List.range ops.toList.length).all fun j => ((ops.toList.getD j default).after.toList.all fun e => !Region.binds .any e || Nat.blt e.on j)

def noSelect (ops : Array Oper) : Bool := ops.toList.all fun o => match o.op with | .select _ _ => false | _ => true

/-- An operation that all ahead of it in the text are ahead of, and that is ahead of all behind it. -/
def isBar (bs : List (List Nat)) (n p : Nat) : Bool :=
  (List.range p).all (fun i => mem i (bs.getD p [])) && (List.range n).all (fun j => !Nat.blt p j || mem p (bs.getD j []))
def isCallT : Op → Bool
  | .call { callee := .value (.tmp _), args := _, argTypes := _ } => true
  | _ => false
/-- A call of a value, behind all ahead of it. -/
def barOf (ops : Array Oper) : Option Nat :=
  (List.range ops.toList.length).find? fun p => isCallT (ops.toList.getD p default).op && isBar (befores ops.toList) ops.toList.length p
/-- Each two operations of a part, of which none is behind the other, may change places. -/
def calmPart (ops : Array Oper) (k : Nat) (l : List Oper) (fs : List (List Nat × List Nat)) : Bool :=
  (List.range l.length).all fun j => (List.range j).all fun i =>
    mem (k + i) ((befores ops.toList).getD (k + j) []) || calm ops (l.getD i default) (l.getD j default) (fs.getD i ([], [])) (fs.getD j ([], []))

def regionBar {R : Type} (em : EmR R) (C : Ctx) (ops : Array Oper) (p : Nat) (s : St) (K : St → Option R) : Option R :=
  stepAll (EmR.no R) C ops (ops.toList.take p) s [] fun fs s => bif calmPart ops 0 (ops.toList.take p) fs.reverse then
    match ops.toList[p]? with
    | some o => step em C ops o s fun e s => stepAll (EmR.no R) C ops (ops.toList.drop (p + 1)) (s.app o.dst e) [] fun fs s =>
        bif calmPart ops (p + 1) (ops.toList.drop (p + 1)) fs.reverse then K s else none
    | none => none
  else none

def region {R : Type} (em : EmR R) (C : Ctx) (ops : Array Oper) (draw : Bool) (s : St) (K : St → Option R) : Option R :=
  bif draw then
    bif aheadAll ops && noSelect ops then match barOf ops with
      | some p => regionBar em C ops p s K
      | none => stepAll (EmR.no R) C ops ops.toList s [] fun fs s => bif calmAll ops fs.reverse then K s else none
    else none
  else stepAll em C ops ops.toList s [] fun _ s => K s

/-! ### code -/
inductive Ex where
  | normal | exit (id : Nat) | ret

/-- The first region of a piece of code: its name among the loops. -/
def headOf : Code → Nat
  | .region id _ _ => id
  | .seq a _ => headOf a
  | .block _ a => headOf a
  | .loop a => headOf a
  | .cond _ a _ => headOf a
  | .scope a => headOf a
  | _ => 0
/-- The name of a loop over a function. -/
def headR (assign body : Code) : Nat := 100000 + match assign with
  | .skip => headOf body
  | a => headOf a

/-- At a loop's head: only some slots and variables are kept, and these under plain names: the right to a slice's room is named after the first place that has it. -/
def btok (k : Nat) : Nat := k + 200000
def tokOf (s : St) : S → List Nat
  | .lst .clip _ _ => []
  | .lst (.tip T n) _ _ => match lookO s.heap T with
    | some (.tok m) => bif Nat.beq m n then [T] else []
    | _ => []
  | _ => []
/-- A value that takes the right of a name. -/
def keepTag (s : St) (T' : Nat) : S → S
  | .lst .clip e x => .lst (.tip T' 0) e x
  | .lst (.tip T n) e x => match lookO s.heap T with
    | some (.tok m) => bif Nat.beq m n then .lst (.tip T' 0) e x else .dat (.slc e) x
    | _ => .dat (.slc e) x
  | .ptr id n root π => match s.box id n with
    | some _ => .ptr id 0 root π
    | none => .poison
  | .vec id n e => match s.box id n with
    | some _ => .vec id 0 e
    | none => .poison
  | .eptr _ _ _ _ _ => .poison
  | .vsub _ _ _ _ => .poison
  | .once _ _ => .poison
  | .inn _ _ => .poison
  | .tup _ => .poison
  | v => v
/-- A place: a slot (true), a variable (false). -/
def plc (s : St) : Bool × Nat → S
  | (true, k) => look .poison s.slots k
  | (false, k) => match lookO s.heap k with
    | some (.box _ _ c) => plcOf c
    | _ => .poison
/-- A content that takes the right of a name. -/
def keepCon (s : St) (T' : Nat) : S → S
  | .fat τ x π g e ys => match keepTag s T' (.lst g e ys) with
    | .lst g' _ _ => .fat τ x π g' e ys
    | _ => .dat τ x
  | c => keepTag s T' c
def ptok : Bool × Nat → Nat
  | (true, k) => tokId k
  | (false, k) => btok k
/-- No two places have one right. -/
def apartAll (s : St) : List (Bool × Nat) → List Nat → Bool
  | [], _ => true
  | p :: l, used => !meet (tokOf s (plc s p)) used && apartAll s l (tokOf s (plc s p) ++ used)
def isTip : S → Bool
  | .lst (.tip _ _) _ _ => true
  | _ => false
/-- What a variable may hold at a loop's head. -/
def boxable : S → Bool
  | .dat _ _ | .lst _ _ _ | .fn _ _ _ | .seq _ _ | .yld _ | .ptr _ _ _ _ | .row _ _ | .fat _ _ _ _ _ _ => true
  | _ => false
def tokRows (s : St) : List (Bool × Nat) → List (Nat × HC)
  | [] => []
  | p :: l => bif isTip (keepTag s (ptok p) (plc s p)) then (ptok p, .tok 0) :: tokRows s l else tokRows s l
def keepBoxes (s : St) : List Nat → Option (List (Nat × HC))
  | [] => some []
  | k :: l => match lookO s.heap k with
    | some (.box _ fz c) => bif boxable c then (keepBoxes s l).map ((k, .box 0 fz (keepCon s (btok k) c)) :: ·) else none
    | _ => none
def ptrIn (ids : List Nat) (p : Nat × S) : Bool := match p.2 with
  | .ptr id _ _ _ => mem id ids
  | .vec id _ _ => mem id ids
  | _ => true
def boxPtrIn (ids : List Nat) (p : Nat × HC) : Bool := match p.2 with
  | .box _ _ (.ptr id _ _ _) => mem id ids
  | .box _ _ .poison => false
  | _ => true
def places (ks : List Nat × List Nat) : List (Bool × Nat) := ks.1.map (true, ·) ++ ks.2.map (false, ·)
def nodup : List Nat → Bool
  | [] => true
  | k :: l => !mem k l && nodup l
def St.keep (s : St) (ks : List Nat × List Nat) : Option St :=
  match keepBoxes s ks.2 with
  | some h =>
    let a := ks.1.map fun k => (k, keepTag s (tokId k) (look .poison s.slots k))
    bif apartAll s (places ks) [] && ((a.all (ptrIn ks.2) && h.all (boxPtrIn ks.2)) && ((ks.1.all (fun k => Nat.blt k 100000) && ks.2.all (fun k => Nat.blt k 100000)) && (nodup ks.1 && nodup ks.2)))
      then some { slots := a, heap := tokRows s (places ks) ++ h } else none
  | none => none

def iter {R : Type} (body : St → (Ex → St → Option R) → Option R) (norm : St → Option St) (K : Ex → St → Option R) : Nat → St → Option R
  | 0, _ => none
  | n + 1, s => body s fun e s' => match e with
    | .normal => match norm s' with
      | some s'' => iter body norm K n s''
      | none => none
    | e => K e s'

/-- A slot's value without a right. -/
def noTip : S → S
  | .lst (.tip _ _) e x => .dat (.slc e) x
  | .lst .clip e x => .dat (.slc e) x
  | .tup _ => .poison
  | .vec _ _ _ => .poison
  | .eptr _ _ _ _ _ => .poison
  | .vsub _ _ _ _ => .poison
  | .row _ _ => .poison
  | .once _ _ => .poison
  | .inn _ _ => .poison
  | .fat _ _ _ _ _ _ => .poison
  | v => v
/-- The slots that a loop over a function is entered with. -/
def entrySlots (s : St) (ks : List Nat) : List (Nat × S) := ks.map fun k => (k, noTip (look .poison s.slots k))
/-- Pointers in slots are, behind a round, what they were. -/
def samePtr : S → S → Bool
  | .ptr id n _ π, .ptr id' n' _ π' => Nat.beq id id' && Nat.beq n n' && (match π, π' with | [], [] => true | _, _ => false)
  | .ptr _ _ _ _, _ => false
  | _, _ => true
def sameSlots (s' : St) : List (Nat × S) → Bool
  | [] => true
  | (t, v) :: l => samePtr v (look .poison s'.slots t) && sameSlots s' l
def ptrSlots : List (Nat × S) → List Nat
  | [] => []
  | (t, .ptr _ _ _ _) :: l => t :: ptrSlots l
  | _ :: l => ptrSlots l
/-- Rounds over a list: each begins with the slots of the first one. -/
def iterS {R : Type} {α : Type} (body : α → St → (Ex → St → Option R) → Option R) (base : List (Nat × S)) (ks : List Nat × List Nat) (K : Ex → St → Option R) : List α → List (Nat × HC) → Option R
  | [], h => K .normal { slots := base, heap := h }
  | x :: xs, h => body x { slots := base, heap := h } fun e s' => bif sameSlots s' base then match e with
      | .normal => match St.keep { slots := base, heap := s'.heap } ks with
        | some s'' => bif sameSlots s'' base then iterS body base ks K xs s''.heap else none
        | none => none
      | e => K e { slots := base, heap := s'.heap }
    else none
/-- The slots that each round begins with, of those kept. -/
def baseSlots (s : St) : List (Nat × S) := s.slots.map fun p => (p.1, noTip p.2)
def parSlots : (ps : List Nat) → (es : List Ty) → dens es → Option (List (Nat × S))
  | [], [], _ => some []
  | [p], [e], x => some [(p, .dat e x)]
  | p :: q :: ps, e :: e' :: es, x => (parSlots (q :: ps) (e' :: es) x.2).map ((p, .dat e x.1) :: ·)
  | _, _, _ => none

/-- What is gone over; the rows of the heap from then on. -/
def seqOf (s : St) : S → Option ((es : List Ty) × List (dens es) × List (Nat × HC))
  | .seq es xs => some ⟨es, xs, s.heap⟩
  | .once id n => match s.box id n with
    | some (false, .inn es xs) => some ⟨es, xs, (id, .box (n + 1) true (.row .unit [])) :: s.heap⟩
    | _ => none
  | _ => none

def exec {R : Type} (em : EmR R) (C : Ctx) (n : Nat) : Code → St → (Ex → St → Option R) → Option R
  | .skip, s, K => K .normal s
  | .region _ ops draw, s, K => region em C ops draw s fun s => K .normal s
  | .seq a b, s, K => exec em C n a s fun e s' => match e with
    | .normal => exec em C n b s' K
    | e => K e s'
  | .cond c a b, s, K => match c with
    | .tmp t => match look .poison s.slots t with
      | .dat .bool x => bif (x : Bool) then exec em C n a { s with slots := (t, .dat .bool true) :: s.slots } K else exec em C n b { s with slots := (t, .dat .bool false) :: s.slots } K
      | _ => none
    | .const (.bool x) => bif x then exec em C n a s K else exec em C n b s K
    | _ => none
  | .block id c, s, K => exec em C n c s fun e s' => match e with
    | .exit id' => bif Nat.beq id' id then K .normal s' else K (.exit id') s'
    | e => K e s'
  | .loop c, s, K => match s.keep (C.keep (headOf c)) with
    | some s => iter (fun s K => exec em C n c s K) (fun s => s.keep (C.keep (headOf c))) K n s
    | none => none
  | .rangeFunc f ps assign body, s, K => match seqOf s (s.ev f) with
    | some ⟨es, xs, hp⟩ => match St.keep { slots := entrySlots s (C.keep (headR assign body)).1, heap := hp } (C.keep (headR assign body)) with
      | some s0 => bif ps.toList.all (fun p => Nat.blt p C.ntmps && !mem p (C.keep (headR assign body)).1) && nodup ps.toList then
        iterS (fun (x : dens es) s K => match parSlots ps.toList es x with
          | some l => exec em { C with pins := ptrSlots (baseSlots s0) } n assign { s with slots := l ++ s.slots } fun e s' => match e with
            | .normal => exec em { C with pins := ptrSlots (baseSlots s0) } n body s' K
            | _ => none
          | none => none) (baseSlots s0) (C.keep (headR assign body)) K xs s0.heap
        else none
      | none => none
    | _ => none
  | .scope c, s, K => exec em C n c s K
  | .label _, s, K => K .normal s
  | .exit id, s, K => K (.exit id) s
  | .ret, s, K => K .ret s
  | _, _, _ => none

/-! ### functions -/
def argSlots : (ps : List PTy) → pdens ps → Nat → List (Nat × S)
  | [], _, _ => []
  | [p], x, i => [(i, ofP p x)]
  | p :: q :: ps, x, i => (i, ofP p x.1) :: argSlots (q :: ps) x.2 (i + 1)
where
  ofP : (p : PTy) → p.den → S
    | .data τ, x => .dat τ x
    | .cptr τ, x => .cptr τ x
    | .fnp ps rs, g => .fn ps rs g
    | .seqp es, xs => .seq es xs
    | .nils _, _ => .nil

/-- A result's value. -/
def resSlot (C : Ctx) (s : St) : ResultVar → S
  | .tmp t => look .poison s.slots t
  | .cell a t => match look .poison s.slots a with
    | .ptr id n root [] => match s.box id n with
      | some (_, .dat σ x) => bif tyIs C t σ && σ.beq root then .dat σ x else .poison
      | some (_, .lst g e x) => bif tyIs C t (.slc e) then .lst g e x else .poison
      | _ => .poison
    | _ => .poison

def hasTip (s : St) : S → Option (List Nat)
  | .nil => some []
  | .lst .clip _ _ => some []
  | .lst (.tip T n) _ _ => match lookO s.heap T with
    | some (.tok m) => bif Nat.beq m n then some [T] else none
    | _ => none
  | _ => none

/-- A slice of the run's own, as a result. -/
def asOwn (s : St) (e : Ty) : S → Option (List e.den)
  | .vec id n e' => match s.box id n with
    | some (false, .row e'' xs) => bif e'.beq e'' then castD (.slc e'') (.slc e) xs else none
    | _ => none
  | .nil => some []
  | .lst .clip _ [] => some []
  | _ => none
/-- An iterator that is gone over once, as a result. -/
def asOnce (s : St) (es : List Ty) : S → Option (List (dens es))
  | .once id n => match s.box id n with
    | some (false, .inn es' xs) => castSeq es' es xs
    | _ => none
  | _ => none
def asR (s : St) : (r : RTy) → S → Option r.den
  | .data τ, v => asD τ v
  | .fresh e, v => match hasTip s v with
    | some _ => asD (.slc e) v
    | none => none
  | .own e, v => asOwn s e v
  | .oncer es, v => asOnce s es v
  | .seqr es, v => asP (.seqp es) v
  | .fnr ps rs, v => asP (.fnp ps rs) v
def asRs (s : St) : (rs : List RTy) → List S → Option (rdens rs)
  | [], [] => some ()
  | [p], [v] => asR s p v
  | p :: q :: ps, v :: vs => (asR s p v).bind fun x => (asRs s (q :: ps) vs).map fun y => (x, y)
  | _, _ => none

/-- Results that may be slices of the run's own. -/
def endRs (s : St) (rs : List RTy) (vs : List S) : Option (rdens rs) := match rs, vs with
  | [.own e], vs => asRs s [.own e] vs
  | [.fresh e], [.vec id n e'] => match untie s id n e' with
    | some (u, hw, _) => asRs { slots := s.slots, heap := hw ++ s.heap } [.fresh e] [u]
    | none => none
  | rs, vs => match thaw s vs with
    | some (vs, [], _) => asRs s rs vs
    | some (vs, h :: hw, _) => asRs { slots := s.slots, heap := h :: hw ++ s.heap } rs vs
    | none => none
def endDs (s : St) (rs : List Ty) (vs : List S) : Option (dens rs) := match thaw s vs with
  | some (vs, _, _) => asDs rs vs
  | none => none

def runBody (C : Ctx) (n : Nat) (code : Code) (results : List ResultVar) (rs : List RTy) (s : St) : Option (rdens rs) :=
  exec (EmR.no _) C n code s fun e s => match e with
    | .exit _ => none
    | _ => endRs s rs (results.map (resSlot C s))

/-- What a function's code computes of arguments; what a closure's does. -/
def run (C : Ctx) (n : Nat) (fn : Func) (ps : List PTy) (rs : List RTy) (x : pdens ps) : Option (rdens rs) :=
  match fn.body with
  | some code => bif Nat.ble ps.length fn.ntmps then runBody { C with ntmps := fn.ntmps } n code fn.results.toList rs { slots := argSlots ps x 0, heap := [] } else none
  | none => none

/-- The same, from slots that are told. -/
def runS (C : Ctx) (n : Nat) (fn : Func) (slots : List (Nat × S)) (rs : List RTy) : Option (rdens rs) :=
  match fn.body with
  | some code => runBody { C with ntmps := fn.ntmps } n code fn.results.toList rs { slots := slots, heap := [] }
  | none => none

def datSlots : (ps : List Ty) → dens ps → Nat → List (Nat × S)
  | [], _, _ => []
  | [p], x, i => [(i, .dat p x)]
  | p :: q :: ps, x, i => (i, .dat p x.1) :: datSlots (q :: ps) x.2 (i + 1)

def runBodyC (C : Ctx) (n : Nat) (code : Code) (results : List ResultVar) (rs : List Ty) (s : St) : Option (dens rs) :=
  exec (EmR.no _) C n code s fun e s => match e with
    | .exit _ => none
    | _ => endDs s rs (results.map (resSlot C s))
def runC (C : Ctx) (n : Nat) (fn : Func) (ps : List Ty) (caps : List PTy) (rs : List Ty) (x : dens ps) (c : pdens caps) : Option (dens rs) :=
  match fn.body with
  | some code => bif Nat.ble (ps.length + caps.length) fn.ntmps then runBodyC { C with ntmps := fn.ntmps } n code fn.results.toList rs { slots := datSlots ps x 0 ++ argSlots caps c ps.length, heap := [] } else none
  | none => none

/-- What a function comes to that writes what its first argument points to. -/
def finM (C : Ctx) (results : List ResultVar) (τ : Ty) (rs : List RTy) (s : St) : Option (τ.den × rdens rs) := match look .poison s.slots 0 with
  | .ptr 0 0 _ [] => match s.boxD 0 0 with
    | some (false, .dat σ z) => match castD σ τ z, asRs s rs (results.map (resSlot C s)) with
      | some z, some r => some (z, r)
      | _, _ => none
    | _ => none
  | _ => none
def runBodyM (C : Ctx) (n : Nat) (code : Code) (results : List ResultVar) (τ : Ty) (rs : List RTy) (s : St) : Option (τ.den × rdens rs) :=
  exec (EmR.no _) C n code s fun e s => match e with
    | .exit _ => none
    | _ => finM C results τ rs s
def runM (C : Ctx) (n : Nat) (fn : Func) (τ : Ty) (ps : List PTy) (rs : List RTy) (y : τ.den) (x : pdens ps) : Option (τ.den × rdens rs) :=
  match fn.body with
  | some code => bif Nat.ble (1 + ps.length) fn.ntmps && !rs.any RTy.held then
      runBodyM { C with ntmps := fn.ntmps, pins := [0] } n code fn.results.toList τ rs { slots := (0, .ptr 0 0 τ []) :: argSlots ps x 1, heap := [(0, .box 0 false (.dat τ y))] } else none
  | none => none

/-- What a function comes to that keeps its first argument. -/
def runD (C : Ctx) (n : Nat) (fn : Func) (e : Ty) (ps : List PTy) (rs : List RTy) (y : List e.den) (x : pdens ps) : Option (rdens rs) :=
  match fn.body with
  | some code => bif Nat.ble (1 + ps.length) fn.ntmps && !rs.any RTy.held then
      runBody { C with ntmps := fn.ntmps } n code fn.results.toList rs { slots := (0, .vec 0 0 e) :: argSlots ps x 1, heap := [(0, .box 0 false (.row e y))] } else none
  | none => none

/-- What an iterator gives whose one captured variable is its own. -/
def runO (C : Ctx) (n : Nat) (fn : Func) (es : List Ty) (τ : Ty) (y : τ.den) : Option (List (dens es)) :=
  match fn.body with
  | some code => bif Nat.ble 2 fn.ntmps && fn.results.toList.isEmpty then
      exec (EmR.seq es) { C with ntmps := fn.ntmps } n code { slots := [(0, .yld es), (1, .ptr 1 0 τ [])], heap := [(1, .box 0 false (.dat τ y))] } fun e _ => match e with
        | .exit _ => none
        | _ => some []
      else none
  | none => none

/-- What an iterator's body gives. -/
def runBodyQ (C : Ctx) (n : Nat) (code : Code) (es : List Ty) (s : St) : Option (List (dens es)) :=
  exec (EmR.seq es) C n code s fun e _ => match e with
    | .exit _ => none
    | _ => some []
def runQ (C : Ctx) (n : Nat) (fn : Func) (firsts : List PTy) (es : List Ty) (caps : List PTy) (x : pdens firsts) (c : pdens caps) : Option (List (dens es)) :=
  match fn.body with
  | some code => bif Nat.ble (firsts.length + (1 + caps.length)) fn.ntmps && fn.results.toList.isEmpty then
      runBodyQ { C with ntmps := fn.ntmps } n code es { slots := argSlots firsts x 0 ++ (firsts.length, .yld es) :: argSlots caps c (firsts.length + 1), heap := [] } else none
  | none => none

theorem cond_some {α : Type} (c : Bool) (a b : α) : (bif c then some a else some b) = some (bif c then a else b) := by cases c <;> rfl

end Go.Vi
