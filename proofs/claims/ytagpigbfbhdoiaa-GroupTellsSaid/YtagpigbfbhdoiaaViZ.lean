/- Words for the walks: what is left to do behind a loop, by name; contexts out of lists of contracts. -/
import Derived.Test.YtagpigbfbhdoiaaViY
namespace Go.Vi

def Code.go : Code → List Nat → Code
  | c, [] => c
  | .seq a _, 0 :: l => Code.go a l
  | .seq _ b, _ :: l => Code.go b l
  | .cond _ a _, 0 :: l => Code.go a l
  | .cond _ _ b, _ :: l => Code.go b l
  | .block _ a, _ :: l => Code.go a l
  | .scope a, _ :: l => Code.go a l
  | .rangeFunc _ _ a _, 0 :: l => Code.go a l
  | .rangeFunc _ _ _ b, _ :: l => Code.go b l
  | .loop a, _ :: l => Code.go a l
  | c, _ => c

def bodyOf (fn : Func) : Code := match fn.body with
  | some c => c
  | none => .skip

section
variable {R : Type}
def seqK (em : EmR R) (C : Ctx) (n : Nat) (b : Code) (K : Ex → St → Option R) : Ex → St → Option R := fun e s' => match e with
  | .normal => exec em C n b s' K
  | e => K e s'
def blockK (id : Nat) (K : Ex → St → Option R) : Ex → St → Option R := fun e s' => match e with
  | .exit id' => bif Nat.beq id' id then K .normal s' else K (.exit id') s'
  | e => K e s'
/-- A loop's rounds. -/
def it (em : EmR R) (C : Ctx) (n : Nat) (c : Code) (K : Ex → St → Option R) (m : Nat) (s : St) : Option R :=
  iter (fun s K => exec em C n c s K) (fun s => s.keep (C.keep (headOf c))) K m s
def loopK (em : EmR R) (C : Ctx) (n : Nat) (c : Code) (K : Ex → St → Option R) (m : Nat) : Ex → St → Option R := fun e s' => match e with
  | .normal => match s'.keep (C.keep (headOf c)) with
    | some s'' => it em C n c K m s''
    | none => none
  | e => K e s'
/-- A loop over a function: its parts. -/
def rfPs : Code → List Nat
  | .rangeFunc _ ps _ _ => ps.toList
  | _ => []
def rfAssign : Code → Code
  | .rangeFunc _ _ a _ => a
  | c => c
def rfBody : Code → Code
  | .rangeFunc _ _ _ b => b
  | c => c
def Ctx.round (C : Ctx) (base : List (Nat × S)) : Ctx := { C with pins := ptrSlots base }
/-- Its rounds, over what is left of the list. -/
def itS (em : EmR R) (C : Ctx) (n : Nat) (c : Code) (es : List Ty) (base : List (Nat × S)) (K : Ex → St → Option R) (xs : List (dens es)) (h : List (Nat × HC)) : Option R :=
  iterS (fun (x : dens es) s K => match parSlots (rfPs c) es x with
    | some l => exec em (C.round base) n (rfAssign c) { s with slots := l ++ s.slots } fun e s' => match e with
      | .normal => exec em (C.round base) n (rfBody c) s' K
      | _ => none
    | none => none) base (C.keep (headR (rfAssign c) (rfBody c))) K xs h
def assignK (em : EmR R) (C : Ctx) (n : Nat) (c : Code) (base : List (Nat × S)) (K : Ex → St → Option R) : Ex → St → Option R := fun e s' => match e with
  | .normal => exec em (C.round base) n (rfBody c) s' K
  | _ => none
def roundK (em : EmR R) (C : Ctx) (n : Nat) (c : Code) (es : List Ty) (base : List (Nat × S)) (K : Ex → St → Option R) (xs : List (dens es)) : Ex → St → Option R := fun e s' => bif sameSlots s' base then match e with
    | .normal => match St.keep { slots := base, heap := s'.heap } (C.keep (headR (rfAssign c) (rfBody c))) with
      | some s'' => bif sameSlots s'' base then itS em C n c es base K xs s''.heap else none
      | none => none
    | e => K e { slots := base, heap := s'.heap }
  else none
end
def bodyK (C : Ctx) (fn : Func) (rs : List RTy) : Ex → St → Option (rdens rs) := fun e s => match e with
  | .exit _ => none
  | _ => endRs s rs (fn.results.toList.map (resSlot C s))
def bodyKC (C : Ctx) (fn : Func) (rs : List Ty) : Ex → St → Option (dens rs) := fun e s => match e with
  | .exit _ => none
  | _ => endDs s rs (fn.results.toList.map (resSlot C s))

def bodyKM (C : Ctx) (fn : Func) (τ : Ty) (rs : List RTy) : Ex → St → Option (τ.den × rdens rs) := fun e s => match e with
  | .exit _ => none
  | _ => finM C fn.results.toList τ rs s
def bodyKQ (es : List Ty) : Ex → St → Option (List (dens es)) := fun e _ => match e with
  | .exit _ => none
  | _ => some []

theorem congr1 {α γ : Type} (F : α → γ) {a a' : α} (h : a = a') : F a = F a' := by rw [h]
theorem congr2 {α β γ : Type} (F : α → β → γ) {a a' : α} {b b' : β} (h : a = a') (k : b = b') : F a b = F a' b' := by rw [h, k]
theorem congr3 {α β γ δ : Type} (F : α → β → γ → δ) {a a' : α} {b b' : β} {c c' : γ} (h : a = a') (k : b = b') (l : c = c') : F a b c = F a' b' c' := by rw [h, k, l]
theorem congr4 {α β γ δ ε : Type} (F : α → β → γ → δ → ε) {a a' : α} {b b' : β} {c c' : γ} {d d' : δ} (h : a = a') (k : b = b') (l : c = c') (m : d = d') : F a b c d = F a' b' c' d' := by rw [h, k, l, m]

section
variable {P : Program}
theorem fns_nil : ∀ f en, lookO ([] : List (Nat × Ent)) f = some en → SoundE P f en := fun _ _ h => by cases h
theorem fns_cons {k : Nat} {e : Ent} {l : List (Nat × Ent)} (h : SoundE P k e) (t : ∀ f en, lookO l f = some en → SoundE P f en) : ∀ f en, lookO ((k, e) :: l) f = some en → SoundE P f en := fun f en hl => by
  rw [lookO_cons] at hl
  by_cases hk : k = f
  · rw [if_pos hk] at hl; cases hl; rw [← hk]; exact h
  · rw [if_neg hk] at hl; exact t f en hl
theorem cls_nil : ∀ f en, lookO ([] : List (Nat × Cl)) f = some en → SoundC P f en := fun _ _ h => by cases h
theorem cls_cons {k : Nat} {e : Cl} {l : List (Nat × Cl)} (h : SoundC P k e) (t : ∀ f en, lookO l f = some en → SoundC P f en) : ∀ f en, lookO ((k, e) :: l) f = some en → SoundC P f en := fun f en hl => by
  rw [lookO_cons] at hl
  by_cases hk : k = f
  · rw [if_pos hk] at hl; cases hl; rw [← hk]; exact h
  · rw [if_neg hk] at hl; exact t f en hl
theorem ons_nil : ∀ f en, lookO ([] : List (Nat × Oq)) f = some en → SoundO P f en := fun _ _ h => by cases h
theorem ons_cons {k : Nat} {e : Oq} {l : List (Nat × Oq)} (h : SoundO P k e) (t : ∀ f en, lookO l f = some en → SoundO P f en) : ∀ f en, lookO ((k, e) :: l) f = some en → SoundO P f en := fun f en hl => by
  rw [lookO_cons] at hl
  by_cases hk : k = f
  · rw [if_pos hk] at hl; cases hl; rw [← hk]; exact h
  · rw [if_neg hk] at hl; exact t f en hl
theorem ems_nil : ∀ f en, lookO ([] : List (Nat × Em)) f = some en → SoundM P f en := fun _ _ h => by cases h
theorem ems_cons {k : Nat} {e : Em} {l : List (Nat × Em)} (h : SoundM P k e) (t : ∀ f en, lookO l f = some en → SoundM P f en) : ∀ f en, lookO ((k, e) :: l) f = some en → SoundM P f en := fun f en hl => by
  rw [lookO_cons] at hl
  by_cases hk : k = f
  · rw [if_pos hk] at hl; cases hl; rw [← hk]; exact h
  · rw [if_neg hk] at hl; exact t f en hl
theorem des_nil : ∀ f en, lookO ([] : List (Nat × De)) f = some en → SoundD P f en := fun _ _ h => by cases h
theorem des_cons {k : Nat} {e : De} {l : List (Nat × De)} (h : SoundD P k e) (t : ∀ f en, lookO l f = some en → SoundD P f en) : ∀ f en, lookO ((k, e) :: l) f = some en → SoundD P f en := fun f en hl => by
  rw [lookO_cons] at hl
  by_cases hk : k = f
  · rw [if_pos hk] at hl; cases hl; rw [← hk]; exact h
  · rw [if_neg hk] at hl; exact t f en hl
theorem sqs_nil : ∀ f en, lookO ([] : List (Nat × Sq)) f = some en → SoundQ P f en := fun _ _ h => by cases h
theorem sqs_cons {k : Nat} {e : Sq} {l : List (Nat × Sq)} (h : SoundQ P k e) (t : ∀ f en, lookO l f = some en → SoundQ P f en) : ∀ f en, lookO ((k, e) :: l) f = some en → SoundQ P f en := fun f en hl => by
  rw [lookO_cons] at hl
  by_cases hk : k = f
  · rw [if_pos hk] at hl; cases hl; rw [← hk]; exact h
  · rw [if_neg hk] at hl; exact t f en hl
end
end Go.Vi
