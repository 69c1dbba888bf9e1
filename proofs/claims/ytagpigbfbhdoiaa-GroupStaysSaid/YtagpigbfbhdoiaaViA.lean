/- The pure values of an interpreter of the model's code: types, values, and when cells of memory hold a value. -/
import Derived.Calls
import Derived.Below
import Derived.KernelRfl
namespace Go.Vi

/-- Types of data. -/
inductive Ty where
  | int (k : IntKind) | bool | str | unit
  | one (a : Ty) | pair (a b : Ty) | arr (n : Nat) (e : Ty) | slc (e : Ty)

def kindEq : IntKind → IntKind → Bool
  | .i8, .i8 | .i16, .i16 | .i32, .i32 | .i64, .i64 | .u8, .u8 | .u16, .u16 | .u32, .u32 | .u64, .u64 => true
  | _, _ => false
theorem kindEq_eq {a b : IntKind} (h : kindEq a b = true) : a = b := by cases a <;> cases b <;> first | rfl | (simp [kindEq] at h)

def Ty.beq : Ty → Ty → Bool
  | .int k, .int l => kindEq k l
  | .bool, .bool | .str, .str | .unit, .unit => true
  | .one a, .one b => a.beq b
  | .pair a b, .pair c d => a.beq c && b.beq d
  | .arr n a, .arr m b => Nat.beq n m && a.beq b
  | .slc a, .slc b => a.beq b
  | _, _ => false
theorem Ty.eq_of_beq : ∀ {a b : Ty}, a.beq b = true → a = b
  | .int k, .int l, h => by simp only [Ty.beq] at h; rw [kindEq_eq h]
  | .bool, .bool, _ => rfl
  | .str, .str, _ => rfl
  | .unit, .unit, _ => rfl
  | .one a, .one b, h => by simp only [Ty.beq] at h; rw [Ty.eq_of_beq h]
  | .pair a b, .pair c d, h => by simp only [Ty.beq, Bool.and_eq_true] at h; rw [Ty.eq_of_beq h.1, Ty.eq_of_beq h.2]
  | .arr n a, .arr m b, h => by simp only [Ty.beq, Bool.and_eq_true] at h; rw [Nat.eq_of_beq_eq_true h.1, Ty.eq_of_beq h.2]
  | .slc a, .slc b, h => by simp only [Ty.beq] at h; rw [Ty.eq_of_beq h]
  | .int _, .bool, h | .int _, .str, h | .int _, .unit, h | .int _, .one _, h | .int _, .pair _ _, h | .int _, .arr _ _, h | .int _, .slc _, h => by simp [Ty.beq] at h
  | .bool, .int _, h | .bool, .str, h | .bool, .unit, h | .bool, .one _, h | .bool, .pair _ _, h | .bool, .arr _ _, h | .bool, .slc _, h => by simp [Ty.beq] at h
  | .str, .int _, h | .str, .bool, h | .str, .unit, h | .str, .one _, h | .str, .pair _ _, h | .str, .arr _ _, h | .str, .slc _, h => by simp [Ty.beq] at h
  | .unit, .int _, h | .unit, .bool, h | .unit, .str, h | .unit, .one _, h | .unit, .pair _ _, h | .unit, .arr _ _, h | .unit, .slc _, h => by simp [Ty.beq] at h
  | .one _, .int _, h | .one _, .bool, h | .one _, .str, h | .one _, .unit, h | .one _, .pair _ _, h | .one _, .arr _ _, h | .one _, .slc _, h => by simp [Ty.beq] at h
  | .pair _ _, .int _, h | .pair _ _, .bool, h | .pair _ _, .str, h | .pair _ _, .unit, h | .pair _ _, .one _, h | .pair _ _, .arr _ _, h | .pair _ _, .slc _, h => by simp [Ty.beq] at h
  | .arr _ _, .int _, h | .arr _ _, .bool, h | .arr _ _, .str, h | .arr _ _, .unit, h | .arr _ _, .one _, h | .arr _ _, .pair _ _, h | .arr _ _, .slc _, h => by simp [Ty.beq] at h
  | .slc _, .int _, h | .slc _, .bool, h | .slc _, .str, h | .slc _, .unit, h | .slc _, .one _, h | .slc _, .pair _ _, h | .slc _, .arr _ _, h => by simp [Ty.beq] at h

/-- The Lean values of a type. -/
@[reducible] def Ty.den : Ty → Type
  | .int _ => Int | .bool => Bool | .str => ByteArray | .unit => Unit
  | .one a => a.den | .pair a b => a.den × b.den | .arr _ e => List e.den | .slc e => List e.den

def Ty.size : Ty → Nat
  | .unit => 0 | .one a => a.size | .pair a b => a.size + b.size | .arr n e => n * e.size | _ => 1

def Ty.zero : (τ : Ty) → τ.den
  | .int _ => (0 : Int) | .bool => false | .str => ByteArray.empty | .unit => ()
  | .one a => a.zero | .pair a b => (a.zero, b.zero) | .arr n e => List.replicate n e.zero | .slc _ => []

/-- Is a value of this type a row of cells (a struct, an array)? -/
def Ty.agg : Ty → Bool
  | .unit | .one _ | .pair _ _ | .arr _ _ => true
  | _ => false

abbrev D := (τ : Ty) × τ.den

/-- What is known of who writes a block: nobody (what is there stays), a frame anywhere (a variable of its own), or a frame from a place on (the spare room of a slice of its own). Frames are told apart by their levels. -/
inductive Own where
  | stays | mine (m : Nat) | room (m hi : Nat)
abbrev Gh := Nat → Own
/-- The cell at place o of block b stays. -/
def Gh.st (G : Gh) (b o : Nat) : Prop := match G b with | .stays => True | .mine _ => False | .room _ hi => o < hi

def Cell (w : World) (b o : Nat) : Option Value := w.cell? ⟨b, o, none⟩

/-- Item by item. -/
def Each {α β : Type} (R : α → β → Prop) : List α → List β → Prop
  | [], [] => True
  | x :: xs, y :: ys => R x y ∧ Each R xs ys
  | _, _ => False
theorem Each.length {α β : Type} {R : α → β → Prop} : ∀ {xs : List α} {ys : List β}, Each R xs ys → xs.length = ys.length
  | [], [], _ => rfl
  | _ :: _, _ :: _, h => by simp [Each.length h.2]
  | [], _ :: _, h => h.elim
  | _ :: _, [], h => h.elim
theorem Each.mono {α β : Type} {R R' : α → β → Prop} (hr : ∀ x y, R x y → R' x y) : ∀ {xs : List α} {ys : List β}, Each R xs ys → Each R' xs ys
  | [], [], _ => trivial
  | _ :: _, _ :: _, h => ⟨hr _ _ h.1, Each.mono hr h.2⟩
  | [], _ :: _, h => h.elim
  | _ :: _, [], h => h.elim
theorem Each.append {α β : Type} {R : α → β → Prop} : ∀ {xs : List α} {ys : List β} {xs' : List α} {ys' : List β}, Each R xs ys → Each R xs' ys' → Each R (xs ++ xs') (ys ++ ys')
  | [], [], _, _, _, h => h
  | _ :: _, _ :: _, _, _, h, k => ⟨h.1, Each.append h.2 k⟩
  | [], _ :: _, _, _, h, _ => h.elim
  | _ :: _, [], _, _, h, _ => h.elim
theorem Each.getD {α β : Type} {R : α → β → Prop} (d : α) (e : β) : ∀ {xs : List α} {ys : List β}, Each R xs ys → ∀ i, i < xs.length → R (xs.getD i d) (ys.getD i e)
  | [], [], _, i, hi => by simp at hi
  | _ :: _, _ :: _, h, 0, _ => h.1
  | _ :: _, _ :: _, h, i + 1, hi => by
    simpa using Each.getD d e h.2 i (by simpa using hi)
  | [], _ :: _, h, _, _ => h.elim
  | _ :: _, [], h, _, _ => h.elim
theorem Each.set {α β : Type} {R : α → β → Prop} {x : α} {y : β} (hxy : R x y) : ∀ {xs : List α} {ys : List β}, Each R xs ys → ∀ i, Each R (xs.set i x) (ys.set i y)
  | [], [], _, i => by simp [Each]
  | _ :: _, _ :: _, h, 0 => ⟨hxy, h.2⟩
  | _ :: _, _ :: _, h, i + 1 => ⟨h.1, Each.set hxy h.2 i⟩
  | [], _ :: _, h, _ => h.elim
  | _ :: _, [], h, _ => h.elim
theorem Each.take {α β : Type} {R : α → β → Prop} : ∀ {xs : List α} {ys : List β}, Each R xs ys → ∀ i, Each R (xs.take i) (ys.take i)
  | [], [], _, i => by simp [Each]
  | _ :: _, _ :: _, h, 0 => trivial
  | _ :: _, _ :: _, h, i + 1 => ⟨h.1, Each.take h.2 i⟩
  | [], _ :: _, h, _ => h.elim
  | _ :: _, [], h, _ => h.elim
theorem Each.drop {α β : Type} {R : α → β → Prop} : ∀ {xs : List α} {ys : List β}, Each R xs ys → ∀ i, Each R (xs.drop i) (ys.drop i)
  | [], [], _, i => by simp [Each]
  | _ :: _, _ :: _, h, 0 => h
  | _ :: _, _ :: _, h, i + 1 => Each.drop h.2 i
  | [], _ :: _, h, _ => h.elim
  | _ :: _, [], h, _ => h.elim
theorem Each.replicate {α β : Type} {R : α → β → Prop} {x : α} {y : β} (h : R x y) : ∀ n, Each R (List.replicate n x) (List.replicate n y)
  | 0 => trivial
  | n + 1 => ⟨h, Each.replicate h n⟩
theorem Each.right {α β : Type} {R : α → β → Prop} {Q : β → Prop} (h : ∀ x y, R x y → Q y) : ∀ {xs : List α} {ys : List β}, Each R xs ys → ∀ y ∈ ys, Q y
  | [], [], _, _, hy => by cases hy
  | _ :: _, _ :: _, hh, y, hy => by
    rcases List.mem_cons.1 hy with rfl | hy
    · exact h _ _ hh.1
    · exact Each.right h hh.2 y hy
  | [], _ :: _, h, _, _ => h.elim
  | _ :: _, [], h, _, _ => h.elim

/-- The cells hold the value. -/
def Rep (G : Gh) (w : World) : (τ : Ty) → τ.den → List Value → Prop
  | .int k, n, cs => cs = [.int k n]
  | .bool, b, cs => cs = [.bool b]
  | .str, s, cs => cs = [.string s]
  | .unit, _, cs => cs = []
  | .one a, x, cs => Rep G w a x cs
  | .pair a b, x, cs => ∃ c1 c2, cs = c1 ++ c2 ∧ Rep G w a x.1 c1 ∧ Rep G w b x.2 c2
  | .arr n e, xs, cs => xs.length = n ∧ ∃ css : List (List Value), cs = css.flatten ∧ Each (Rep G w e) xs css
  | .slc e, xs, cs => ∃ (ao : Option Addr) (cap : Nat), cs = [.slice ao xs.length cap] ∧ xs.length ≤ cap ∧
      match ao with
      | none => cap = 0
      | some a => (a.spot = none ∨ cap = 0) ∧ ∃ css : List (List Value), Each (Rep G w e) xs css ∧
          ∀ j v, css.flatten[j]? = some v → Cell w a.block (a.off + j) = some v ∧ G.st a.block (a.off + j)

/-- What stayed in the elder world stands, and stays. -/
structure Adv (G : Gh) (w : World) (G' : Gh) (w' : World) : Prop where
  cell : ∀ b o v, Cell w b o = some v → G.st b o → Cell w' b o = some v ∧ G'.st b o

theorem Adv.refl (G : Gh) (w : World) : Adv G w G w := ⟨fun _ _ _ h k => ⟨h, k⟩⟩
theorem Adv.trans {G G' G'' : Gh} {w w' w'' : World} (h : Adv G w G' w') (k : Adv G' w' G'' w'') : Adv G w G'' w'' :=
  ⟨fun b o v hc hs => let ⟨h1, h2⟩ := h.cell b o v hc hs; k.cell b o v h1 h2⟩

theorem Rep.adv {G G' : Gh} {w w' : World} (ha : Adv G w G' w') : ∀ (τ : Ty) (x : τ.den) (cs : List Value), Rep G w τ x cs → Rep G' w' τ x cs
  | .int _, _, _, h => h
  | .bool, _, _, h => h
  | .str, _, _, h => h
  | .unit, _, _, h => h
  | .one a, x, cs, h => Rep.adv ha a x cs h
  | .pair a b, _, _, ⟨c1, c2, h0, h1, h2⟩ => ⟨c1, c2, h0, Rep.adv ha a _ _ h1, Rep.adv ha b _ _ h2⟩
  | .arr _ e, _, _, ⟨hn, css, h0, h1⟩ => ⟨hn, css, h0, h1.mono fun x c hc => Rep.adv ha e x c hc⟩
  | .slc e, _, _, ⟨ao, cap, h0, h1, h2⟩ => ⟨ao, cap, h0, h1, by
      cases ao with
      | none => exact h2
      | some a =>
        obtain ⟨hs, css, h3, h5⟩ := h2
        exact ⟨hs, css, h3.mono fun x c hc => Rep.adv ha e x c hc, fun j v hv => let ⟨p, q⟩ := h5 j v hv; ha.cell _ _ _ p q⟩⟩

theorem flatten_length_const {α : Type} (n : Nat) : ∀ (css : List (List α)), (∀ c ∈ css, c.length = n) → css.flatten.length = css.length * n
  | [], _ => by simp
  | c :: css, h => by
    rw [List.flatten_cons, List.length_append, flatten_length_const n css (fun d hd => h d (by simp [hd])), h c (by simp), List.length_cons, Nat.succ_mul]; omega

theorem Rep.size {G : Gh} {w : World} : ∀ (τ : Ty) (x : τ.den) (cs : List Value), Rep G w τ x cs → cs.length = τ.size
  | .int _, _, _, h => by simp only [Rep] at h; subst h; rfl
  | .bool, _, _, h => by simp only [Rep] at h; subst h; rfl
  | .str, _, _, h => by simp only [Rep] at h; subst h; rfl
  | .unit, _, _, h => by simp only [Rep] at h; subst h; rfl
  | .one a, x, cs, h => by
    simp only [Rep] at h
    simpa [Ty.size] using Rep.size a x cs h
  | .pair a b, x, cs, h => by
    simp only [Rep] at h
    obtain ⟨c1, c2, h0, h1, h2⟩ := h
    subst h0; simp [Ty.size, Rep.size a _ _ h1, Rep.size b _ _ h2]
  | .arr n e, xs, cs, h => by
    simp only [Rep] at h
    obtain ⟨hn, css, h0, h1⟩ := h
    subst h0
    rw [flatten_length_const e.size css (h1.right fun x y hxy => Rep.size e x y hxy), ← h1.length, hn, Ty.size]
  | .slc e, xs, cs, h => by
    simp only [Rep] at h
    obtain ⟨ao, cap, h0, _, _⟩ := h
    subst h0; rfl

end Go.Vi
