/- When the model's memory and slots are as the interpreter's state says. -/
import Derived.Test.YtagpigbfbhdoiaaViB
namespace Go.Vi

def zeroV : Ty → List Value
  | .int k => [.int k 0] | .bool => [.bool false] | .str => [.string ByteArray.empty] | .unit => []
  | .one a => zeroV a | .pair a b => zeroV a ++ zeroV b | .arr n e => (List.replicate n (zeroV e)).flatten | .slc _ => [.slice none 0 0]

def valOf (τ : Ty) (cs : List Value) : Value := if τ.agg = true then .agg cs.toArray else cs.headD undef

/-- A value of the model holds the data. -/
def RepV (G : Gh) (w : World) (τ : Ty) (x : τ.den) (v : Value) : Prop := ∃ cs, Rep G w τ x cs ∧ v = valOf τ cs

theorem RepV.adv {G G' : Gh} {w w' : World} (ha : Adv G w G' w') {τ : Ty} {x : τ.den} {v : Value} (h : RepV G w τ x v) : RepV G' w' τ x v :=
  let ⟨cs, h1, h2⟩ := h; ⟨cs, Rep.adv ha τ x cs h1, h2⟩

theorem Rep.leaf {G : Gh} {w : World} {τ : Ty} (ha : τ.agg = false) {x : τ.den} {cs : List Value} (h : Rep G w τ x cs) : ∃ v, cs = [v] ∧ v.cells = #[v] := by
  cases τ with
  | int k => simp only [Rep] at h; exact ⟨_, h, rfl⟩
  | bool => simp only [Rep] at h; exact ⟨_, h, rfl⟩
  | str => simp only [Rep] at h; exact ⟨_, h, rfl⟩
  | slc e => simp only [Rep] at h; obtain ⟨ao, cap, h0, _, _⟩ := h; exact ⟨_, h0, rfl⟩
  | unit => simp [Ty.agg] at ha
  | one a => simp [Ty.agg] at ha
  | pair a b => simp [Ty.agg] at ha
  | arr n e => simp [Ty.agg] at ha

theorem Rep.cells {G : Gh} {w : World} {τ : Ty} {x : τ.den} {cs : List Value} (h : Rep G w τ x cs) : (valOf τ cs).cells = cs.toArray := by
  unfold valOf
  by_cases ha : τ.agg = true
  · rw [if_pos ha]; rfl
  · obtain ⟨v, rfl, hv⟩ := h.leaf (by simpa using ha)
    rw [if_neg ha]; simpa using hv

theorem Rep.zero (G : Gh) (w : World) : ∀ τ : Ty, Rep G w τ τ.zero (zeroV τ)
  | .int _ => rfl
  | .bool => rfl
  | .str => rfl
  | .unit => rfl
  | .one a => Rep.zero G w a
  | .pair a b => ⟨_, _, rfl, Rep.zero G w a, Rep.zero G w b⟩
  | .arr n e => ⟨by simp [Ty.zero], _, rfl, Each.replicate (Rep.zero G w e) n⟩
  | .slc e => ⟨none, 0, rfl, Nat.le_refl _, rfl⟩

/-! ### the program's types -/
def leafEq : Value → Value → Bool
  | .bool a, .bool b => a == b
  | .int k a, .int l b => kindEq k l && a == b
  | .string a, .string b => a.size == 0 && b.size == 0
  | .slice none 0 0, .slice none 0 0 => true
  | _, _ => false
theorem leafEq_eq {a b : Value} (h : leafEq a b = true) : a = b := by
  unfold leafEq at h
  split at h
  · simp at h; rw [h]
  · simp at h; rw [kindEq_eq h.1, h.2]
  · simp at h
    rename_i s t
    rw [h.1, h.2]
  · rfl
  · simp at h
theorem beqL_eq {α : Type} {f : α → α → Bool} (hf : ∀ a b, f a b = true → a = b) : ∀ {xs ys : List α}, beqL f xs ys = true → xs = ys
  | [], [], _ => rfl
  | x :: xs, y :: ys, h => by
    simp only [beqL, Bool.and_eq_true] at h
    rw [hf _ _ h.1, beqL_eq hf h.2]
  | [], _ :: _, h => by simp [beqL] at h
  | _ :: _, [], h => by simp [beqL] at h

def tabTy (tab : List (Nat × TE)) (t : Nat) (τ : Ty) : Bool := match lookO tab t with
  | some te => te.ty.beq τ
  | none => false

/-- A struct of so many fields. -/
def nfOk : Nat → Ty → Bool
  | 0, .unit => true
  | 1, .one _ => true
  | 2, .pair _ _ => true
  | n + 3, .pair _ b => nfOk (n + 2) b
  | _, _ => false

/-- The table's row is as the program has the type. -/
def descOk (P : Program) (tab : List (Nat × TE)) (te : TE) : TypeDesc → Bool
  | .int k => te.ty.beq (.int k)
  | .bool => te.ty.beq .bool
  | .string => te.ty.beq .str
  | .slice e => match te.ty with
    | .slc τ => tabTy tab e τ && (match P.info? e with | some i => Nat.beq i.bytes te.bytes | none => false)
    | _ => false
  | .array n e => match te.ty with
    | .arr m τ => Nat.beq n m && tabTy tab e τ
    | _ => false
  | .struct fs => (match te.ty with | .unit | .one _ | .pair _ _ => true | _ => false) && nfOk te.nf te.ty && Nat.beq fs.size te.nf &&
      (List.range te.nf).all fun j => match fs[j]? with
        | some f => !(f.name == "_") && Nat.beq f.offset (fldOff te.nf j te.ty) && (match fldTy te.nf j te.ty with
          | some τ => tabTy tab f.type τ && !Nat.beq τ.size 0
          | none => false)
        | none => false
  | _ => false

def tyOk (P : Program) (tab : List (Nat × TE)) (t : Nat) (te : TE) : Bool :=
  (match P.underlying t with | some d => descOk P tab te d | none => false) &&
  (match P.info? t with
    | some i => Nat.beq i.size te.ty.size && (match i.zero with
      | some z => (match z with | .agg _ => te.ty.agg | _ => !te.ty.agg) && beqL leafEq z.cells.toList (zeroV te.ty)
      | none => false)
    | none => false) &&
  !P.stoodInHeld t && !P.eqGuardType P.depth t

def tabOk (P : Program) (tab : List (Nat × TE)) : Bool := tab.all fun p => tyOk P tab p.1 p.2
def ftsOk (P : Program) (fts : List Nat) : Bool := fts.all fun t => match P.underlying t with | some (.func _ _ _) => true | _ => false
def ptsOk (P : Program) (pts : List Nat) : Bool := pts.all fun t => match P.underlying t with | some (.pointer _) => true | _ => false
theorem mem_iff {n : Nat} : ∀ {l : List Nat}, mem n l = true ↔ n ∈ l
  | [] => by simp [mem]
  | k :: l => by
    simp only [mem, List.mem_cons]
    cases h : Nat.beq k n with
    | true => rw [Nat.eq_of_beq_eq_true h]; simp
    | false =>
      have : n ≠ k := by intro e; rw [e, Nat.beq_refl] at h; cases h
      simp [this, mem_iff]
theorem ftsOk_spec {P : Program} {fts : List Nat} (h : ftsOk P fts = true) {t : Nat} (ht : mem t fts = true) : ∃ ps rs v, P.underlying t = some (.func ps rs v) := by
  unfold ftsOk at h
  rw [List.all_eq_true] at h
  have := h t (mem_iff.1 ht)
  split at this
  · exact ⟨_, _, _, by assumption⟩
  · cases this

theorem ptsOk_spec {P : Program} {fts : List Nat} (h : ptsOk P fts = true) {t : Nat} (ht : mem t fts = true) : ∃ e, P.underlying t = some (.pointer e) := by
  unfold ptsOk at h
  rw [List.all_eq_true] at h
  have := h t (mem_iff.1 ht)
  split at this
  · exact ⟨_, by assumption⟩
  · cases this

theorem lookO_mem {α : Type} : ∀ {l : List (Nat × α)} {k : Nat} {v : α}, lookO l k = some v → (k, v) ∈ l
  | [], _, _, h => by simp [lookO] at h
  | (k', v') :: l, k, v, h => by
    simp only [lookO] at h
    cases hb : Nat.beq k' k with
    | true =>
      rw [hb] at h
      simp only [cond_true, Option.some.injEq] at h
      have := Nat.eq_of_beq_eq_true hb
      subst this; subst h; exact List.mem_cons_self
    | false =>
      rw [hb] at h
      exact List.mem_cons_of_mem _ (lookO_mem h)

structure Types (P : Program) (tab : List (Nat × TE)) : Prop where
  ok : ∀ t te, lookO tab t = some te → tyOk P tab t te = true

theorem Types.of {P : Program} {tab : List (Nat × TE)} (h : tabOk P tab = true) : Types P tab :=
  ⟨fun t te hl => by
    unfold tabOk at h
    rw [List.all_eq_true] at h
    exact h _ (lookO_mem hl)⟩

theorem tabTy_spec {tab : List (Nat × TE)} {t : Nat} {τ : Ty} (h : tabTy tab t τ = true) : ∃ te, lookO tab t = some te ∧ te.ty = τ := by
  unfold tabTy at h
  cases hl : lookO tab t with
  | none => rw [hl] at h; simp at h
  | some te => rw [hl] at h; exact ⟨te, rfl, Ty.eq_of_beq h⟩

section
variable {P : Program} {tab : List (Nat × TE)} (T : Types P tab)
include T

theorem Types.under {t : Nat} {te : TE} (h : lookO tab t = some te) : ∃ d, P.underlying t = some d ∧ descOk P tab te d = true := by
  have k := T.ok t te h
  unfold tyOk at k
  simp only [Bool.and_eq_true] at k
  obtain ⟨⟨⟨k1, _⟩, _⟩, _⟩ := k
  cases hu : P.underlying t with
  | none => rw [hu] at k1; simp at k1
  | some d => rw [hu] at k1; exact ⟨d, rfl, k1⟩

theorem Types.info {t : Nat} {te : TE} (h : lookO tab t = some te) : ∃ i, P.info? t = some i ∧ i.size = te.ty.size ∧ i.zero = some (valOf te.ty (zeroV te.ty)) := by
  have k := T.ok t te h
  unfold tyOk at k
  simp only [Bool.and_eq_true] at k
  obtain ⟨⟨⟨_, k2⟩, _⟩, _⟩ := k
  cases hi : P.info? t with
  | none => rw [hi] at k2; simp at k2
  | some i =>
    rw [hi] at k2
    simp only [Bool.and_eq_true] at k2
    refine ⟨i, rfl, Nat.eq_of_beq_eq_true k2.1, ?_⟩
    cases hz : i.zero with
    | none => rw [hz] at k2; simp at k2
    | some z =>
      rw [hz] at k2
      simp only [Bool.and_eq_true] at k2
      have hc := beqL_eq (fun a b => leafEq_eq) k2.2.2
      have ha := k2.2.1
      congr 1
      unfold valOf
      cases z with
      | agg cs =>
        have ha : te.ty.agg = true := ha
        rw [if_pos ha, ← hc]
        simp [Value.cells]
      | _ =>
        have ha : (!te.ty.agg) = true := ha
        have ha' : te.ty.agg = false := by simpa using ha
        rw [if_neg (by simp [ha']), ← hc]
        simp [Value.cells]

theorem Types.held {t : Nat} {te : TE} (h : lookO tab t = some te) : P.stoodInHeld t = false := by
  have k := T.ok t te h
  unfold tyOk at k
  simp only [Bool.and_eq_true] at k
  simpa using k.1.2
theorem Types.guard {t : Nat} {te : TE} (h : lookO tab t = some te) : P.eqGuardType P.depth t = false := by
  have k := T.ok t te h
  unfold tyOk at k
  simp only [Bool.and_eq_true] at k
  simpa using k.2

theorem Types.agg {t : Nat} {te : TE} (h : lookO tab t = some te) : ∃ d, P.underlying t = some d ∧ (te.ty.agg = true ↔ ((∃ fs, d = .struct fs) ∨ ∃ n e, d = .array n e)) := by
  obtain ⟨d, hd, k⟩ := T.under h
  refine ⟨d, hd, ?_⟩
  cases d <;> simp only [descOk] at k <;> try (simp at k; done)
  case bool => rw [Ty.eq_of_beq k]; simp [Ty.agg]
  case int => rw [Ty.eq_of_beq k]; simp [Ty.agg]
  case string => rw [Ty.eq_of_beq k]; simp [Ty.agg]
  case slice e =>
    revert k; cases te.ty <;> simp [Ty.agg]
  case array n e =>
    revert k; cases te.ty <;> simp [Ty.agg]
  case struct fs =>
    revert k; cases te.ty <;> simp [Ty.agg]

theorem Types.slc {t : Nat} {te : TE} {e : Ty} (h : lookO tab t = some te) (hty : te.ty = .slc e) :
    ∃ et tee i, P.underlying t = some (.slice et) ∧ lookO tab et = some tee ∧ tee.ty = e ∧ P.info? et = some i ∧ i.size = e.size ∧ i.zero = some (valOf e (zeroV e)) ∧ i.bytes = te.bytes := by
  obtain ⟨d, hd, k⟩ := T.under h
  cases d <;> simp only [descOk, hty, Ty.beq] at k <;> try (simp at k; done)
  case slice et =>
    simp only [Bool.and_eq_true] at k
    obtain ⟨tee, h1, h2⟩ := tabTy_spec k.1
    obtain ⟨i, h3, h4, h5⟩ := T.info h1
    refine ⟨et, tee, i, hd, h1, h2, h3, by rw [h4, h2], by rw [h5, h2], ?_⟩
    have k2 := k.2
    rw [h3] at k2
    exact Nat.eq_of_beq_eq_true k2

theorem Types.arr {t : Nat} {te : TE} {n : Nat} {e : Ty} (h : lookO tab t = some te) (hty : te.ty = .arr n e) :
    ∃ et tee, P.underlying t = some (.array n et) ∧ lookO tab et = some tee ∧ tee.ty = e := by
  obtain ⟨d, hd, k⟩ := T.under h
  cases d <;> simp only [descOk, hty, Ty.beq] at k <;> try (simp at k; done)
  case array m et =>
    simp only [Bool.and_eq_true] at k
    obtain ⟨tee, h1, h2⟩ := tabTy_spec k.2
    have := Nat.eq_of_beq_eq_true k.1
    subst this
    exact ⟨et, tee, hd, h1, h2⟩

theorem Types.struct {t : Nat} {te : TE} (h : lookO tab t = some te) (ha : te.ty.agg = true) (hn : ∀ n e, te.ty ≠ .arr n e) :
    ∃ fs, P.underlying t = some (.struct fs) ∧ nfOk te.nf te.ty = true ∧ fs.size = te.nf ∧ ∀ j f, fs[j]? = some f → f.name ≠ "_" ∧ f.offset = fldOff te.nf j te.ty ∧
      ∃ τ tef, fldTy te.nf j te.ty = some τ ∧ lookO tab f.type = some tef ∧ tef.ty = τ ∧ τ.size ≠ 0 := by
  obtain ⟨d, hd, k⟩ := T.under h
  cases d <;> simp only [descOk] at k <;> try (simp at k; done)
  case bool => rw [Ty.eq_of_beq k] at ha; simp [Ty.agg] at ha
  case int => rw [Ty.eq_of_beq k] at ha; simp [Ty.agg] at ha
  case string => rw [Ty.eq_of_beq k] at ha; simp [Ty.agg] at ha
  case slice e =>
    revert k ha; cases te.ty <;> simp [Ty.agg]
  case struct fs =>
    simp only [Bool.and_eq_true] at k
    obtain ⟨⟨⟨_, k0⟩, k2⟩, k3⟩ := k
    have hsz := Nat.eq_of_beq_eq_true k2
    refine ⟨fs, hd, k0, hsz, fun j f hf => ?_⟩
    have hj : j < te.nf := by rw [← hsz]; exact (Array.getElem?_eq_some_iff.1 hf).1
    rw [List.all_eq_true] at k3
    have k4 := k3 j (List.mem_range.2 hj)
    rw [hf] at k4
    simp only [Bool.and_eq_true] at k4
    obtain ⟨⟨k5, k6⟩, k7⟩ := k4
    refine ⟨by simpa using k5, Nat.eq_of_beq_eq_true k6, ?_⟩
    cases hτ : fldTy te.nf j te.ty with
    | none => rw [hτ] at k7; simp at k7
    | some τ =>
      rw [hτ] at k7
      simp only [Bool.and_eq_true] at k7
      obtain ⟨tef, h1, h2⟩ := tabTy_spec k7.1
      refine ⟨τ, tef, rfl, h1, h2, ?_⟩
      have := k7.2
      intro h0
      rw [h0] at this
      simp at this
end
end Go.Vi
