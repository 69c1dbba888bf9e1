/- Words for the walks: what is left to do behind a loop, by name; contexts out of lists of contracts. -/
import Derived.Test.YtpiboooclejjcaaViY
namespace Go.Vi

def Code.go : Code → List Nat → Code
  | c, [] => c
  | .seq a _, 0 :: l => Code.go a l
  | .seq _ b, _ :: l => Code.go b l
  | .cond _ a _, 0 :: l => Code.go a l
  | .cond _ _ b, _ :: l => Code.go b l
  | .block _ a, _ :: l => Code.go a l
  | .loop a, _ :: l => Code.go a l
  | c, _ => c

def bodyOf (fn : Func) : Code := match fn.body with
  | some c => c
  | none => .skip

section
variable {R : Type}
def seqK (C : Ctx) (n : Nat) (b : Code) (K : Ex → St → Option R) : Ex → St → Option R := fun e s' => match e with
  | .normal => exec C n b s' K
  | e => K e s'
def blockK (id : Nat) (K : Ex → St → Option R) : Ex → St → Option R := fun e s' => match e with
  | .exit id' => bif Nat.beq id' id then K .normal s' else K (.exit id') s'
  | e => K e s'
/-- A loop's rounds. -/
def it (C : Ctx) (n : Nat) (c : Code) (K : Ex → St → Option R) (m : Nat) (s : St) : Option R :=
  iter (fun s K => exec C n c s K) (fun s => s.keep (C.keep (headOf c))) K m s
def loopK (C : Ctx) (n : Nat) (c : Code) (K : Ex → St → Option R) (m : Nat) : Ex → St → Option R := fun e s' => match e with
  | .normal => match s'.keep (C.keep (headOf c)) with
    | some s'' => it C n c K m s''
    | none => none
  | e => K e s'
end
def bodyK (C : Ctx) (fn : Func) (rs : List RTy) : Ex → St → Option (rdens rs) := fun e s => match e with
  | .exit _ => none
  | _ => asRs s rs (fn.results.toList.map (resSlot C s))
def bodyKC (C : Ctx) (fn : Func) (rs : List Ty) : Ex → St → Option (dens rs) := fun e s => match e with
  | .exit _ => none
  | _ => asDs rs (fn.results.toList.map (resSlot C s))

section
variable {P : Program}
theorem fns_nil : ∀ f en, lookO ([] : List (Nat × Ent)) f = some en → SoundE P f en := fun _ _ h => by cases h
theorem fns_cons {k : Nat} {e : Ent} {l : List (Nat × Ent)} (h : SoundE P k e) (t : ∀ f en, lookO l f = some en → SoundE P f en) : ∀ f en, lookO ((k, e) :: l) f = some en → SoundE P f en := fun f en hl => by
  rw [lookO_cons] at hl
  by_cases hk : k = f
  · rw [if_pos hk] at hl; cases hl; rw [← hk]; exact h
  · rw [if_neg hk] at hl; exact t f en hl
theorem cls_nil : ∀ f en, lookO ([] : List (Nat × Cl)) f = some en → SoundC P f en := fun _ _ h => by cases h
theorem cls_cons {k : Nat} {e : Cl} {l : List (Nat × Cl)} (h : SoundC P k e) (t : ∀ f en, lookO l f = some en → SoundC P f en) : ∀ f en, lookO ((k, e) :: l) f = some en → SoundC P f en := fun f en hl => by
  rw [lookO_cons] at hl
  by_cases hk : k = f
  · rw [if_pos hk] at hl; cases hl; rw [← hk]; exact h
  · rw [if_neg hk] at hl; exact t f en hl
end
end Go.Vi
