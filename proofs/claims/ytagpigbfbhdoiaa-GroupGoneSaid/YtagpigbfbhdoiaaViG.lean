/- When the model's memory and slots are as the interpreter's state says. -/
import Derived.Test.YtagpigbfbhdoiaaViB
import Derived.Deep.Draws
import Derived.RangeFuncNested
import Derived.Laws.Append
import Derived.Laws.AppendOwn
import Derived.Laws.Entries
import Derived.Laws.StructEq
import Derived.Laws.Slices
import Derived.Laws.Cells
import Derived.Laws.CopyRow
import Derived.ChangeKeysEq
namespace Go.Vi

def zeroV : Ty → List Value
  | .int k => [.int k 0] | .bool => [.bool false] | .str => [.string ByteArray.empty] | .unit => []
  | .one a => zeroV a | .pair a b => zeroV a ++ zeroV b | .arr n e => (List.replicate n (zeroV e)).flatten | .slc _ => [.slice none 0 0]

def valOf (τ : Ty) (cs : List Value) : Value := if τ.agg = true then .agg cs.toArray else cs.headD undef

/-- A value of the model holds the data. -/
def RepV (G : Gh) (w : World) (τ : Ty) (x : τ.den) (v : Value) : Prop := ∃ cs, Rep G w τ x cs ∧ v = valOf τ cs

theorem RepV.adv {G G' : Gh} {w w' : World} (ha : Adv G w G' w') {τ : Ty} {x : τ.den} {v : Value} (h : RepV G w τ x v) : RepV G' w' τ x v :=
  let ⟨cs, h1, h2⟩ := h; ⟨cs, Rep.adv ha τ x cs h1, h2⟩

theorem Rep.leaf {G : Gh} {w : World} {τ : Ty} (ha : τ.agg = false) {x : τ.den} {cs : List Value} (h : Rep G w τ x cs) : ∃ v, cs = [v] ∧ v.cells = #[v] := by
  cases τ with
  | int k => simp only [Rep] at h; exact ⟨_, h, rfl⟩
  | bool => simp only [Rep] at h; exact ⟨_, h, rfl⟩
  | str => simp only [Rep] at h; exact ⟨_, h, rfl⟩
  | slc e => simp only [Rep] at h; obtain ⟨ao, cap, h0, _, _⟩ := h; exact ⟨_, h0, rfl⟩
  | unit => simp [Ty.agg] at ha
  | one a => simp [Ty.agg] at ha
  | pair a b => simp [Ty.agg] at ha
  | arr n e => simp [Ty.agg] at ha

theorem Rep.cells {G : Gh} {w : World} {τ : Ty} {x : τ.den} {cs : List Value} (h : Rep G w τ x cs) : (valOf τ cs).cells = cs.toArray := by
  unfold valOf
  by_cases ha : τ.agg = true
  · rw [if_pos ha]; rfl
  · obtain ⟨v, rfl, hv⟩ := h.leaf (by simpa using ha)
    rw [if_neg ha]; simpa using hv

theorem Rep.zero (G : Gh) (w : World) : ∀ τ : Ty, Rep G w τ τ.zero (zeroV τ)
  | .int _ => rfl
  | .bool => rfl
  | .str => rfl
  | .unit => rfl
  | .one a => Rep.zero G w a
  | .pair a b => ⟨_, _, rfl, Rep.zero G w a, Rep.zero G w b⟩
  | .arr n e => ⟨by simp [Ty.zero], _, rfl, Each.replicate (Rep.zero G w e) n⟩
  | .slc e => ⟨none, 0, rfl, Nat.le_refl _, rfl⟩

/-! ### the program's types -/
def leafEq : Value → Value → Bool
  | .bool a, .bool b => a == b
  | .int k a, .int l b => kindEq k l && a == b
  | .string a, .string b => a.size == 0 && b.size == 0
  | .slice none 0 0, .slice none 0 0 => true
  | _, _ => false
theorem leafEq_eq {a b : Value} (h : leafEq a b = true) : a = b := by
  unfold leafEq at h
  split at h
  · simp at h; rw [h]
  · simp at h; rw [kindEq_eq h.1, h.2]
  · simp at h
    rename_i s t
    rw [h.1, h.2]
  · rfl
  · simp at h
theorem beqL_eq {α : Type} {f : α → α → Bool} (hf : ∀ a b, f a b = true → a = b) : ∀ {xs ys : List α}, beqL f xs ys = true → xs = ys
  | [], [], _ => rfl
  | x :: xs, y :: ys, h => by
    simp only [beqL, Bool.and_eq_true] at h
    rw [hf _ _ h.1, beqL_eq hf h.2]
  | [], _ :: _, h => by simp [beqL] at h
  | _ :: _, [], h => by simp [beqL] at h

def tabTy (tab : List (Nat × TE)) (t : Nat) (τ : Ty) : Bool := match lookO tab t with
  | some te => te.ty.beq τ
  | none => false

/-- A struct of so many fields. -/
def nfOk : Nat → Ty → Bool
  | 0, .unit => true
  | 1, .one _ => true
  | 2, .pair _ _ => true
  | n + 3, .pair _ b => nfOk (n + 2) b
  | _, _ => false

/-- The table's row is as the program has the type. -/
def descOk (P : Program) (tab : List (Nat × TE)) (te : TE) : TypeDesc → Bool
  | .int k => te.ty.beq (.int k)
  | .bool => te.ty.beq .bool
  | .string => te.ty.beq .str
  | .slice e => match te.ty with
    | .slc τ => tabTy tab e τ && (match P.info? e with | some i => Nat.beq i.bytes te.bytes | none => false)
    | _ => false
  | .array n e => match te.ty with
    | .arr m τ => Nat.beq n m && tabTy tab e τ
    | _ => false
  | .struct fs => (match te.ty with | .unit | .one _ | .pair _ _ => true | _ => false) && nfOk te.nf te.ty && Nat.beq fs.size te.nf &&
      (List.range te.nf).all fun j => match fs[j]? with
        | some f => !(f.name == "_") && Nat.beq f.offset (fldOff te.nf j te.ty) && (match fldTy te.nf j te.ty with
          | some τ => tabTy tab f.type τ && !Nat.beq τ.size 0
          | none => false)
        | none => false
  | _ => false

def tyOk (P : Program) (tab : List (Nat × TE)) (t : Nat) (te : TE) : Bool :=
  (match P.underlying t with | some d => descOk P tab te d | none => false) &&
  (match P.info? t with
    | some i => Nat.beq i.size te.ty.size && (match i.zero with
      | some z => (match z with | .agg _ => te.ty.agg | _ => !te.ty.agg) && beqL leafEq z.cells.toList (zeroV te.ty)
      | none => false)
    | none => false) &&
  !P.stoodInHeld t && !P.eqGuardType P.depth t

def tabOk (P : Program) (tab : List (Nat × TE)) : Bool := tab.all fun p => tyOk P tab p.1 p.2
def ftsOk (P : Program) (fts : List Nat) : Bool := fts.all fun t => match P.underlying t with | some (.func _ _ _) => true | _ => false
def ptsOk (P : Program) (pts : List Nat) : Bool := pts.all fun t => match P.underlying t with | some (.pointer _) => true | _ => false
theorem mem_iff {n : Nat} : ∀ {l : List Nat}, mem n l = true ↔ n ∈ l
  | [] => by simp [mem]
  | k :: l => by
    simp only [mem, List.mem_cons]
    cases h : Nat.beq k n with
    | true => rw [Nat.eq_of_beq_eq_true h]; simp
    | false =>
      have : n ≠ k := by intro e; rw [e, Nat.beq_refl] at h; cases h
      simp [this, mem_iff]
theorem ftsOk_spec {P : Program} {fts : List Nat} (h : ftsOk P fts = true) {t : Nat} (ht : mem t fts = true) : ∃ ps rs v, P.underlying t = some (.func ps rs v) := by
  unfold ftsOk at h
  rw [List.all_eq_true] at h
  have := h t (mem_iff.1 ht)
  split at this
  · exact ⟨_, _, _, by assumption⟩
  · cases this

theorem ptsOk_spec {P : Program} {fts : List Nat} (h : ptsOk P fts = true) {t : Nat} (ht : mem t fts = true) : ∃ e, P.underlying t = some (.pointer e) := by
  unfold ptsOk at h
  rw [List.all_eq_true] at h
  have := h t (mem_iff.1 ht)
  split at this
  · exact ⟨_, by assumption⟩
  · cases this

theorem lookO_mem {α : Type} : ∀ {l : List (Nat × α)} {k : Nat} {v : α}, lookO l k = some v → (k, v) ∈ l
  | [], _, _, h => by simp [lookO] at h
  | (k', v') :: l, k, v, h => by
    simp only [lookO] at h
    cases hb : Nat.beq k' k with
    | true =>
      rw [hb] at h
      simp only [cond_true, Option.some.injEq] at h
      have := Nat.eq_of_beq_eq_true hb
      subst this; subst h; exact List.mem_cons_self
    | false =>
      rw [hb] at h
      exact List.mem_cons_of_mem _ (lookO_mem h)

structure Types (P : Program) (tab : List (Nat × TE)) : Prop where
  ok : ∀ t te, lookO tab t = some te → tyOk P tab t te = true

theorem Types.of {P : Program} {tab : List (Nat × TE)} (h : tabOk P tab = true) : Types P tab :=
  ⟨fun t te hl => by
    unfold tabOk at h
    rw [List.all_eq_true] at h
    exact h _ (lookO_mem hl)⟩

theorem tabTy_spec {tab : List (Nat × TE)} {t : Nat} {τ : Ty} (h : tabTy tab t τ = true) : ∃ te, lookO tab t = some te ∧ te.ty = τ := by
  unfold tabTy at h
  cases hl : lookO tab t with
  | none => rw [hl] at h; simp at h
  | some te => rw [hl] at h; exact ⟨te, rfl, Ty.eq_of_beq h⟩

section
variable {P : Program} {tab : List (Nat × TE)} (T : Types P tab)
include T

theorem Types.under {t : Nat} {te : TE} (h : lookO tab t = some te) : ∃ d, P.underlying t = some d ∧ descOk P tab te d = true := by
  have k := T.ok t te h
  unfold tyOk at k
  simp only [Bool.and_eq_true] at k
  obtain ⟨⟨⟨k1, _⟩, _⟩, _⟩ := k
  cases hu : P.underlying t with
  | none => rw [hu] at k1; simp at k1
  | some d => rw [hu] at k1; exact ⟨d, rfl, k1⟩

theorem Types.info {t : Nat} {te : TE} (h : lookO tab t = some te) : ∃ i, P.info? t = some i ∧ i.size = te.ty.size ∧ i.zero = some (valOf te.ty (zeroV te.ty)) := by
  have k := T.ok t te h
  unfold tyOk at k
  simp only [Bool.and_eq_true] at k
  obtain ⟨⟨⟨_, k2⟩, _⟩, _⟩ := k
  cases hi : P.info? t with
  | none => rw [hi] at k2; simp at k2
  | some i =>
    rw [hi] at k2
    simp only [Bool.and_eq_true] at k2
    refine ⟨i, rfl, Nat.eq_of_beq_eq_true k2.1, ?_⟩
    cases hz : i.zero with
    | none => rw [hz] at k2; simp at k2
    | some z =>
      rw [hz] at k2
      simp only [Bool.and_eq_true] at k2
      have hc := beqL_eq (fun a b => leafEq_eq) k2.2.2
      have ha := k2.2.1
      congr 1
      unfold valOf
      cases z with
      | agg cs =>
        have ha : te.ty.agg = true := ha
        rw [if_pos ha, ← hc]
        simp [Value.cells]
      | _ =>
        have ha : (!te.ty.agg) = true := ha
        have ha' : te.ty.agg = false := by simpa using ha
        rw [if_neg (by simp [ha']), ← hc]
        simp [Value.cells]

theorem Types.held {t : Nat} {te : TE} (h : lookO tab t = some te) : P.stoodInHeld t = false := by
  have k := T.ok t te h
  unfold tyOk at k
  simp only [Bool.and_eq_true] at k
  simpa using k.1.2
theorem Types.guard {t : Nat} {te : TE} (h : lookO tab t = some te) : P.eqGuardType P.depth t = false := by
  have k := T.ok t te h
  unfold tyOk at k
  simp only [Bool.and_eq_true] at k
  simpa using k.2

theorem Types.agg {t : Nat} {te : TE} (h : lookO tab t = some te) : ∃ d, P.underlying t = some d ∧ (te.ty.agg = true ↔ ((∃ fs, d = .struct fs) ∨ ∃ n e, d = .array n e)) := by
  obtain ⟨d, hd, k⟩ := T.under h
  refine ⟨d, hd, ?_⟩
  cases d <;> simp only [descOk] at k <;> try (simp at k; done)
  case bool => rw [Ty.eq_of_beq k]; simp [Ty.agg]
  case int => rw [Ty.eq_of_beq k]; simp [Ty.agg]
  case string => rw [Ty.eq_of_beq k]; simp [Ty.agg]
  case slice e =>
    revert k; cases te.ty <;> simp [Ty.agg]
  case array n e =>
    revert k; cases te.ty <;> simp [Ty.agg]
  case struct fs =>
    revert k; cases te.ty <;> simp [Ty.agg]

theorem Types.slc {t : Nat} {te : TE} {e : Ty} (h : lookO tab t = some te) (hty : te.ty = .slc e) :
    ∃ et tee i, P.underlying t = some (.slice et) ∧ lookO tab et = some tee ∧ tee.ty = e ∧ P.info? et = some i ∧ i.size = e.size ∧ i.zero = some (valOf e (zeroV e)) ∧ i.bytes = te.bytes := by
  obtain ⟨d, hd, k⟩ := T.under h
  cases d <;> simp only [descOk, hty, Ty.beq] at k <;> try (simp at k; done)
  case slice et =>
    simp only [Bool.and_eq_true] at k
    obtain ⟨tee, h1, h2⟩ := tabTy_spec k.1
    obtain ⟨i, h3, h4, h5⟩ := T.info h1
    refine ⟨et, tee, i, hd, h1, h2, h3, by rw [h4, h2], by rw [h5, h2], ?_⟩
    have k2 := k.2
    rw [h3] at k2
    exact Nat.eq_of_beq_eq_true k2

theorem Types.arr {t : Nat} {te : TE} {n : Nat} {e : Ty} (h : lookO tab t = some te) (hty : te.ty = .arr n e) :
    ∃ et tee, P.underlying t = some (.array n et) ∧ lookO tab et = some tee ∧ tee.ty = e := by
  obtain ⟨d, hd, k⟩ := T.under h
  cases d <;> simp only [descOk, hty, Ty.beq] at k <;> try (simp at k; done)
  case array m et =>
    simp only [Bool.and_eq_true] at k
    obtain ⟨tee, h1, h2⟩ := tabTy_spec k.2
    have := Nat.eq_of_beq_eq_true k.1
    subst this
    exact ⟨et, tee, hd, h1, h2⟩

theorem Types.struct {t : Nat} {te : TE} (h : lookO tab t = some te) (ha : te.ty.agg = true) (hn : ∀ n e, te.ty ≠ .arr n e) :
    ∃ fs, P.underlying t = some (.struct fs) ∧ nfOk te.nf te.ty = true ∧ fs.size = te.nf ∧ ∀ j f, fs[j]? = some f → f.name ≠ "_" ∧ f.offset = fldOff te.nf j te.ty ∧
      ∃ τ tef, fldTy te.nf j te.ty = some τ ∧ lookO tab f.type = some tef ∧ tef.ty = τ ∧ τ.size ≠ 0 := by
  obtain ⟨d, hd, k⟩ := T.under h
  cases d <;> simp only [descOk] at k <;> try (simp at k; done)
  case bool => rw [Ty.eq_of_beq k] at ha; simp [Ty.agg] at ha
  case int => rw [Ty.eq_of_beq k] at ha; simp [Ty.agg] at ha
  case string => rw [Ty.eq_of_beq k] at ha; simp [Ty.agg] at ha
  case slice e =>
    revert k ha; cases te.ty <;> simp [Ty.agg]
  case struct fs =>
    simp only [Bool.and_eq_true] at k
    obtain ⟨⟨⟨_, k0⟩, k2⟩, k3⟩ := k
    have hsz := Nat.eq_of_beq_eq_true k2
    refine ⟨fs, hd, k0, hsz, fun j f hf => ?_⟩
    have hj : j < te.nf := by rw [← hsz]; exact (Array.getElem?_eq_some_iff.1 hf).1
    rw [List.all_eq_true] at k3
    have k4 := k3 j (List.mem_range.2 hj)
    rw [hf] at k4
    simp only [Bool.and_eq_true] at k4
    obtain ⟨⟨k5, k6⟩, k7⟩ := k4
    refine ⟨by simpa using k5, Nat.eq_of_beq_eq_true k6, ?_⟩
    cases hτ : fldTy te.nf j te.ty with
    | none => rw [hτ] at k7; simp at k7
    | some τ =>
      rw [hτ] at k7
      simp only [Bool.and_eq_true] at k7
      obtain ⟨tef, h1, h2⟩ := tabTy_spec k7.1
      refine ⟨τ, tef, rfl, h1, h2, ?_⟩
      have := k7.2
      intro h0
      rw [h0] at this
      simp at this
end
end Go.Vi

/- The relation of the interpreter's state to the model's frame and memory; what keeps it. -/
namespace Go.Vi
open Go.RowKit (Below)

/-- A call from one world to another one: nothing that was there has changed, nor whose it is. -/
structure Fwd (G : Gh) (w : World) (G' : Gh) (w' : World) : Prop where
  below : Below w.heap.size w w'
  own : ∀ b, b < w.heap.size → G' b = G b

theorem Cell.lt {w : World} {b o : Nat} {v : Value} (h : Cell w b o = some v) : b < w.heap.size := by
  unfold Cell World.cell? at h
  rcases Nat.lt_or_ge b w.heap.size with hb | hb
  · exact hb
  · rw [Array.getElem?_eq_none hb] at h; simp at h
theorem Cell.of_block {w w' : World} {b o : Nat} (h : w'.heap[b]? = w.heap[b]?) : Cell w' b o = Cell w b o := by
  unfold Cell; exact World.cell?_of_block (w := w) (a := ⟨b, o, none⟩) h

theorem Fwd.refl (G : Gh) (w : World) : Fwd G w G w := ⟨RowKit.Below.refl _ _, fun _ _ => rfl⟩
theorem Fwd.trans {G G' G'' : Gh} {w w' w'' : World} (h : Fwd G w G' w') (k : Fwd G' w' G'' w'') : Fwd G w G'' w'' :=
  ⟨h.below.trans (k.below.mono h.below.size), fun b hb => (k.own b (Nat.lt_of_lt_of_le hb h.below.size)).trans (h.own b hb)⟩
theorem Fwd.adv {G G' : Gh} {w w' : World} (h : Fwd G w G' w') : Adv G w G' w' :=
  ⟨fun b o v hc hs => by
    have hb := Cell.lt hc
    refine ⟨by rw [Cell.of_block (h.below.block b hb)]; exact hc, ?_⟩
    unfold Gh.st at *
    rw [h.own b hb]; exact hs⟩

/-- Blocks that a frame at level m leaves as they are; whose level is at most t; is above t. -/
def Own.offs (m : Nat) : Own → Prop
  | .stays => True
  | .mine j => j ≠ m
  | .room j _ => j ≠ m
def Own.upto (t : Nat) : Own → Prop
  | .stays => True
  | .mine j => j ≤ t
  | .room j _ => j ≤ t
def Own.above (t : Nat) : Own → Prop
  | .stays => True
  | .mine j => t < j
  | .room j _ => t < j
def Lv (t : Nat) (G : Gh) (w : World) : Prop := ∀ b, b < w.heap.size → (G b).upto t
theorem Own.upto_mono {t t' : Nat} (h : t ≤ t') : ∀ {o : Own}, o.upto t → o.upto t'
  | .stays, _ => trivial
  | .mine _, k => Nat.le_trans k h
  | .room _ _, k => Nat.le_trans k h
theorem Lv.mono {t t' : Nat} (h : t ≤ t') {G : Gh} {w : World} (k : Lv t G w) : Lv t' G w := fun b hb => Own.upto_mono h (k b hb)

/-- From one world to another one some blocks are kept. -/
structure Kp (p : Own → Prop) (G : Gh) (w : World) (G' : Gh) (w' : World) : Prop where
  os : w'.os = w.os
  tape : w'.tape = w.tape
  output : w'.output = w.output
  size : w.heap.size ≤ w'.heap.size
  same : ∀ b, b < w.heap.size → p (G b) → w'.heap[b]? = w.heap[b]? ∧ G' b = G b
  adv : Adv G w G' w'
theorem Kp.refl (p : Own → Prop) (G : Gh) (w : World) : Kp p G w G w := ⟨rfl, rfl, rfl, Nat.le_refl _, fun _ _ _ => ⟨rfl, rfl⟩, Adv.refl _ _⟩
theorem Kp.trans {p : Own → Prop} {G G' G'' : Gh} {w w' w'' : World} (h : Kp p G w G' w') (k : Kp p G' w' G'' w'') : Kp p G w G'' w'' :=
  ⟨k.os.trans h.os, k.tape.trans h.tape, k.output.trans h.output, Nat.le_trans h.size k.size, fun b hb hp => by
    obtain ⟨h1, h2⟩ := h.same b hb hp
    obtain ⟨k1, k2⟩ := k.same b (Nat.lt_of_lt_of_le hb h.size) (by rw [h2]; exact hp)
    exact ⟨k1.trans h1, k2.trans h2⟩, h.adv.trans k.adv⟩
theorem Kp.mono {p q : Own → Prop} (hq : ∀ o, q o → p o) {G G' : Gh} {w w' : World} (h : Kp p G w G' w') : Kp q G w G' w' :=
  ⟨h.os, h.tape, h.output, h.size, fun b hb hp => h.same b hb (hq _ hp), h.adv⟩
theorem Fwd.kp {G G' : Gh} {w w' : World} (h : Fwd G w G' w') (p : Own → Prop) : Kp p G w G' w' :=
  ⟨h.below.os, h.below.tape, h.below.output, h.below.size, fun b hb _ => ⟨h.below.block b hb, h.own b hb⟩, h.adv⟩
theorem Kp.fwd {p : Own → Prop} {G G' : Gh} {w w' : World} (h : Kp p G w G' w') (hp : ∀ b, b < w.heap.size → p (G b)) : Fwd G w G' w' :=
  ⟨⟨h.os, h.tape, h.output, h.size, fun b hb => (h.same b hb (hp b hb)).1⟩, fun b hb => (h.same b hb (hp b hb)).2⟩

/-- What is no row of cells stays. -/
def isRow : Obj → Bool
  | .cells _ _ _ => true
  | _ => false
def NC (G : Gh) (w : World) (G' : Gh) (w' : World) : Prop := ∀ (b : Nat) (o : Obj), w.heap[b]? = some o → isRow o = false → w'.heap[b]? = some o ∧ G' b = G b
theorem NC.refl (G : Gh) (w : World) : NC G w G w := fun _ _ h _ => ⟨h, rfl⟩
theorem NC.trans {G G' G'' : Gh} {w w' w'' : World} (h : NC G w G' w') (k : NC G' w' G'' w'') : NC G w G'' w'' := fun b o h1 h2 =>
  let ⟨p, q⟩ := h b o h1 h2
  let ⟨p', q'⟩ := k b o p h2
  ⟨p', q'.trans q⟩
theorem NC.of_blocks {G G' : Gh} {w w' : World} (h : ∀ b : Nat, b < w.heap.size → w'.heap[b]? = w.heap[b]?) (hG : ∀ b : Nat, b < w.heap.size → G' b = G b) : NC G w G' w' := fun b o h1 _ => by
  have hb := (Array.getElem?_eq_some_iff.1 h1).1
  exact ⟨by rw [h b hb]; exact h1, hG b hb⟩
theorem Fwd.nc {G G' : Gh} {w w' : World} (h : Fwd G w G' w') : NC G w G' w' := NC.of_blocks h.below.block h.own

/-- A frame of the run: its level; the highest level of any block; from which block on its own ones lie; a world that it came by, and what is kept from there on; the loop whose round it is; what it has beside rows of cells; temporaries that it does not write, and what they hold; the loop's body that it may call. -/
structure Fr where
  m : Nat
  t : Nat
  B : Nat
  G : Gh
  w : World
  p : Own → Prop
  rd : Option Nat
  objs : List (Nat × Obj)
  pins : List Nat
  pv : Nat → Value
  yl : Nat

/-- One step of a frame. -/
structure Stp (F : Fr) (G : Gh) (w : World) (G' : Gh) (w' : World) : Prop where
  kp : Kp (Own.offs F.m) G w G' w'
  lv : Lv F.t G w → Lv F.t G' w'
  nc : NC G w G' w'
theorem Stp.refl (F : Fr) (G : Gh) (w : World) : Stp F G w G w := ⟨Kp.refl _ _ _, fun h => h, NC.refl _ _⟩
theorem Stp.trans {F : Fr} {G G' G'' : Gh} {w w' w'' : World} (h : Stp F G w G' w') (k : Stp F G' w' G'' w'') : Stp F G w G'' w'' :=
  ⟨h.kp.trans k.kp, fun l => k.lv (h.lv l), h.nc.trans k.nc⟩
theorem Fwd.stp {G G' : Gh} {w w' : World} (h : Fwd G w G' w') {F : Fr} (hl : Lv F.t G w → Lv F.t G' w') : Stp F G w G' w' := ⟨h.kp _, hl, h.nc⟩

/-- The deferred calls that a loop over a function leaves: marks, of which nothing is to be called. -/
def mark (D : Nat) : Deferred := { target := .collected D, args := #[] }
def Marks (m : Nat) (ds : List Deferred) (G : Gh) (w : World) : Prop := ∃ Ds : List Nat, ds = Ds.map mark ∧ Ds.Nodup ∧ ∀ D ∈ Ds, w.heap[D]? = some (.deferred (some [])) ∧ G D = .mine m
theorem Marks.nil (m : Nat) (G : Gh) (w : World) : Marks m [] G w := ⟨[], rfl, List.nodup_nil, fun _ h => by cases h⟩
theorem Marks.nc {m : Nat} {ds : List Deferred} {G G' : Gh} {w w' : World} (h : Marks m ds G w) (k : NC G w G' w') : Marks m ds G' w' := by
  obtain ⟨Ds, h1, h2, h3⟩ := h
  exact ⟨Ds, h1, h2, fun D hD => let ⟨p, q⟩ := h3 D hD; let ⟨p', q'⟩ := k D _ p rfl; ⟨p', q'.trans q⟩⟩
theorem Marks.kp {m : Nat} {ds : List Deferred} {q : Own → Prop} {G G' : Gh} {w w' : World} (h : Marks m ds G w) (k : Kp q G w G' w') (hq : q (.mine m)) : Marks m ds G' w' := by
  obtain ⟨Ds, h1, h2, h3⟩ := h
  refine ⟨Ds, h1, h2, fun D hD => ?_⟩
  obtain ⟨p, r⟩ := h3 D hD
  obtain ⟨e1, e2⟩ := k.same D (Array.getElem?_eq_some_iff.1 p).1 (by rw [r]; exact hq)
  exact ⟨e1.trans p, e2.trans r⟩

/-- A tuple of arguments, or results. -/
def ArgsD (G : Gh) (w : World) : (ps : List Ty) → dens ps → List Value → Prop
  | [], _, vs => vs = []
  | [p], x, vs => ∃ v, vs = [v] ∧ RepV G w p x v
  | p :: q :: ps, x, vs => ∃ v vs', vs = v :: vs' ∧ RepV G w p x.1 v ∧ ArgsD G w (q :: ps) x.2 vs'

def tupVal (vs : List Value) : Value := match vs with
  | [v] => v
  | vs => .tuple vs.toArray

def ResD (G : Gh) (w : World) (rs : List Ty) (x : dens rs) (v : Value) : Prop := ∃ vs, ArgsD G w rs x vs ∧ v = tupVal vs

def Callable (P : Program) (f : FuncId) : Prop := ∃ fn, P.funcs[f]? = some fn ∧ fn.body.isSome = true ∧ (fn.name == "runtime.NumGoroutine") = false

/-- A function's value does as the function: it only makes memory. -/
def FnRel (P : Program) (G : Gh) (w : World) (ps rs : List Ty) (g : dens ps → Option (dens rs)) (v : Value) : Prop :=
  ∃ f caps, v = .func (.func f) #[] caps ∧ Callable P f ∧
    ∀ t G1 w1, Adv G w G1 w1 → Lv t G1 w1 → ∀ (xs : dens ps) vs, ArgsD G1 w1 ps xs vs → ∀ r, g xs = some r →
      Calls P f (vs.toArray ++ caps) w1 fun e w' => ∃ v G', e = .returned v ∧ Fwd G1 w1 G' w' ∧ Lv t G' w' ∧ ResD G' w' rs r v

theorem FnRel.adv {P : Program} {G G' : Gh} {w w' : World} (ha : Adv G w G' w') {ps rs : List Ty} {g : dens ps → Option (dens rs)} {v : Value} (h : FnRel P G w ps rs g v) : FnRel P G' w' ps rs g v :=
  let ⟨f, caps, h1, h2, h3⟩ := h
  ⟨f, caps, h1, h2, fun t G1 w1 ha1 => h3 t G1 w1 (ha.trans ha1)⟩

theorem ArgsD.adv {G G' : Gh} {w w' : World} (ha : Adv G w G' w') : ∀ (ps : List Ty) (x : dens ps) (vs : List Value), ArgsD G w ps x vs → ArgsD G' w' ps x vs
  | [], _, _, h => h
  | [_], _, _, ⟨v, h1, h2⟩ => ⟨v, h1, h2.adv ha⟩
  | _ :: q :: ps, x, _, ⟨v, vs', h1, h2, h3⟩ => ⟨v, vs', h1, h2.adv ha, ArgsD.adv ha (q :: ps) x.2 vs' h3⟩

/-- What a loop leaves be while the function runs that it goes over; what that function's hand-over of an item does. -/
def Abide {R : Type} (τ : Nat) (J : R → Gh → World → Prop) : Prop := ∀ r G w G' w', J r G w → Kp (Own.upto τ) G w G' w' → J r G' w'
def YieldOk {R : Type} (P : Program) (l τ : Nat) (em : EmR R) (J : R → Gh → World → Prop) : Prop :=
  ∀ es x r rout, em.cons es x r = some rout → ∀ G w vs t, J rout G w → Lv t G w → τ ≤ t → ArgsD G w es x vs →
    YieldAt Fence.wide 0 P l vs.toArray w fun e w' => ∃ b G', e = .returned (.bool b) ∧ Kp (Own.above τ) G w G' w' ∧ Lv t G' w' ∧ (b = true → J r G' w') ∧ (b = false → ∀ rn, em.nil rn = true → J rn G' w')

/-- A function's value that hands over these items. -/
def SeqRun (P : Program) (f : FuncId) (first caps : Array Value) (es : List Ty) (xs : List (dens es)) (τ : Nat) (G : Gh) (w : World) : Prop :=
  ∀ l (J : List (dens es) → Gh → World → Prop), Abide τ J → YieldOk P l τ (EmR.seq es) J → J xs G w →
    Calls P f (first ++ #[.func (.yield l) #[] #[]] ++ caps) w fun e w' => ∃ v G', e = .returned v ∧ J [] G' w'
def SeqRel (P : Program) (G : Gh) (w : World) (es : List Ty) (xs : List (dens es)) (v : Value) : Prop :=
  ∃ f first caps, v = .func (.func f) first caps ∧ Callable P f ∧ ∀ τ G1 w1, Adv G w G1 w1 → Lv τ G1 w1 → SeqRun P f first caps es xs τ G1 w1
theorem SeqRel.adv {P : Program} {G G' : Gh} {w w' : World} (ha : Adv G w G' w') {es : List Ty} {xs : List (dens es)} {v : Value} (h : SeqRel P G w es xs v) : SeqRel P G' w' es xs v :=
  let ⟨f, first, caps, h1, h2, h3⟩ := h
  ⟨f, first, caps, h1, h2, fun τ G1 w1 ha1 => h3 τ G1 w1 (ha.trans ha1)⟩

/-- A pointer to cells that stay, and hold a value. -/
def CPtr (G : Gh) (w : World) (τ : Ty) (x : τ.den) (v : Value) : Prop :=
  ∃ b o cs, v = .pointer (some ⟨b, o, none⟩) ∧ Rep G w τ x cs ∧ ∀ j c, cs[j]? = some c → Cell w b (o + j) = some c ∧ G.st b (o + j)
theorem CPtr.adv {G G' : Gh} {w w' : World} (ha : Adv G w G' w') {τ : Ty} {x : τ.den} {v : Value} (h : CPtr G w τ x v) : CPtr G' w' τ x v :=
  let ⟨b, o, cs, h1, h2, h3⟩ := h
  ⟨b, o, cs, h1, Rep.adv ha τ x cs h2, fun j c hc => let ⟨p, q⟩ := h3 j c hc; ha.cell _ _ _ p q⟩

/-- What the relation keeps beside the state: whose the blocks are; where the variables lie; which slice has the right to its room, and how many cells an item of it has. -/
structure Gs where
  G : Gh
  ι : Nat → Nat → Nat
  ov : Nat → Value × Nat
  yl : Nat

/-- A step's index lies in the row. -/
def stepIn : Step → Ty → Prop
  | .fld _ _, _ => True
  | .idx i, .arr n _ => i < n
  | .idx _, _ => True
def pathIn : List Step → Ty → Prop
  | [], _ => True
  | s :: π, τ => stepIn s τ ∧ ∀ σ, stepTy s τ = some σ → pathIn π σ

abbrev Heap := List (Nat × HC)

/-- What lies in cells that are told of. -/
def conC : S → Bool
  | .row _ _ => false
  | .inn _ _ => false
  | _ => true
/-- Of a row of items: what they are, and how many. -/
def rowOf : S → Option (Ty × Nat)
  | .row e xs => some (e, List.length xs)
  | _ => none

/-- A slice of the run's own, and the block of its items. -/
def OwnRel (G : Gh) (w : World) (m B : Nat) (fz : Bool) (b : Nat) (e : Ty) (xs : List e.den) (v : Value) : Prop :=
  ∃ ao C, v = .slice ao xs.length C ∧ xs.length ≤ C ∧ (C = 0 ∨ (ao = some ⟨b, 0, none⟩ ∧ B ≤ b ∧
    ∃ cs et css rest, w.heap[b]? = some (.cells cs et (0, 0)) ∧ cs.toList = css.flatten ++ rest ∧ Each (Rep G w e) xs css ∧ cs.size = C * e.size ∧ G b = (if fz = true then Own.stays else Own.mine m)))

/-- An iterator with a variable of its own, and the variable's block. -/
def SealRel (P : Program) (G : Gh) (w : World) (m : Nat) (fz : Bool) (b : Nat) (es : List Ty) (xs : List (dens es)) (v : Value) : Prop :=
  ∃ f caps cs et, v = .func (.func f) #[] caps ∧ Callable P f ∧ w.heap[b]? = some (.cells cs et (0, 0)) ∧ G b = (if fz = true then Own.stays else Own.mine m) ∧
    ∀ τ G1 w1, Adv G w G1 w1 → w1.heap[b]? = some (.cells cs et (0, 0)) → G1 b = .mine (τ + 1) → (∀ k, k < w1.heap.size → k ≠ b → (G1 k).upto τ) → SeqRun P f #[] caps es xs τ G1 w1

/-- A slice's value from a place on. -/
def subVal : Value → Nat → Nat → Value
  | .slice ao k C, lo, z => .slice (if C = lo then ao else ao.map (·.add (lo * z))) (k - lo) (C - lo)
  | v, _, _ => v

section
variable (P : Program) (H : Heap) (g : Gs) (w : World)
def SRel0 : S → Value → Prop
  | .dat τ x, v => RepV g.G w τ x v
  | .lst .clip e x, v => RepV g.G w (.slc e) x v ∧ ∃ ao n, v = .slice ao n n
  | .lst .nn e x, v => RepV g.G w (.slc e) x v ∧ ∃ a n c, v = .slice (some a) n c
  | .lst (.tip T n) e x, v => RepV g.G w (.slc e) x v ∧ ∃ m, lookO H T = some (.tok m) ∧ n ≤ m ∧ (m = n → g.ov T = (v, e.size))
  | .ptr id n root π, v => ∃ m fz c, lookO H id = some (.box m fz c) ∧ n ≤ m ∧ pathIn π root ∧ v = .pointer (some ⟨g.ι id n, pathOff π root, none⟩)
  | .cptr τ x, v => CPtr g.G w τ x v
  | .fn ps rs f, v => FnRel P g.G w ps rs f v
  | .seq es xs, v => SeqRel P g.G w es xs v
  | .yld _, v => v = .func (.yield g.yl) #[] #[]
  | .fref f, v => v = .func (.func f) #[] #[]
  | .tup _, _ => False
  | .nil, v => v = .slice none 0 0
  | .nilf, v => v = .nilFunc
  | .gone, v => v = undef
  | .poison, _ => True
  | .vec id n e, v => ∃ m fz c, lookO H id = some (.box m fz c) ∧ n ≤ m ∧ (m = n → (∃ k, rowOf c = some (e, k)) ∧ v = (g.ov id).1)
  | .row _ _, _ => False
  | .fat _ _ _ _ _ _, _ => False
  | .vsub id n e lo, v => ∃ m fz c, lookO H id = some (.box m fz c) ∧ n ≤ m ∧ (m = n → (∃ k, rowOf c = some (e, k) ∧ lo ≤ k) ∧ v = subVal (g.ov id).1 lo e.size)
  | .once id n, v => ∃ m fz c, lookO H id = some (.box m fz c) ∧ n ≤ m ∧ (m = n → v = (g.ov id).1)
  | .inn _ _, _ => False
  | .eptr id n e i π, v => ∃ m fz c, lookO H id = some (.box m fz c) ∧ n ≤ m ∧ pathIn π e ∧ v = .pointer (some ⟨g.ι id n, i * e.size + pathOff π e, none⟩) ∧ (m = n → ∃ k, rowOf c = some (e, k) ∧ i < k)
def SRel : S → Value → Prop
  | .tup l, v => ∃ vs : List Value, v = .tuple vs.toArray ∧ Each (SRel0 P H g w) l vs
  | s, v => SRel0 P H g w s v

/-- What a variable holds. -/
def ConRel : S → List Value → Prop
  | .dat τ x, cs => Rep g.G w τ x cs
  | .lst k e x, cs => ∃ v, cs = [v] ∧ SRel0 P H g w (.lst k e x) v
  | .fn ps rs f, cs => ∃ v, cs = [v] ∧ SRel0 P H g w (.fn ps rs f) v
  | .seq es xs, cs => ∃ v, cs = [v] ∧ SRel0 P H g w (.seq es xs) v
  | .ptr id n root π, cs => ∃ v, cs = [v] ∧ SRel0 P H g w (.ptr id n root π) v
  | .yld es, cs => ∃ v, cs = [v] ∧ SRel0 P H g w (.yld es) v
  | .fat τ x π k e ys, cs => Rep g.G w τ x cs ∧ pathIn π τ ∧ pathGet π ⟨τ, x⟩ = some ⟨.slc e, ys⟩ ∧ ∃ v, cs[pathOff π τ]? = some v ∧ SRel0 P H g w (.lst k e ys) v
  | _, _ => False

def BoxRel (F : Fr) (id n : Nat) (fz : Bool) (c : S) : Prop := match c with
  | .row e xs => OwnRel g.G w F.m F.B fz (g.ι id n) e xs (g.ov id).1
  | .inn es xs => SealRel P g.G w F.m fz (g.ι id n) es xs (g.ov id).1
  | c => ∃ cs et, w.heap[g.ι id n]? = some (.cells cs et (0, 0)) ∧ ConRel P H g w c cs.toList ∧ g.G (g.ι id n) = (if fz = true then Own.stays else Own.mine F.m)

/-- A row of the heap has a block: a row of no items may have none. -/
def Real (id : Nat) (c : S) : Prop := rowOf c = none ∨ ∃ ao m C, (g.ov id).1 = .slice ao m C ∧ C ≠ 0

/-- Room for so many cells in a block: no string shares them. -/
def RoomSz (cur : Array Value) (z : Nat × Nat) (n : Nat) : Prop := n ≤ cur.size ∧ ∀ j, j < n → ¬ (z.1 ≤ j ∧ j < z.2)

/-- The slice that has the right to its room. -/
def TokRel (F : Fr) (T : Nat) : Prop :=
  ∃ ao m c, (g.ov T).1 = .slice ao m c ∧ m ≤ c ∧ (m = c ∨ ∃ (b o : Nat) (cur : Array Value) (et : TypeId × (Nat × Nat)), ao = some ⟨b, o, none⟩ ∧ g.G b = .room F.m (o + m * (g.ov T).2) ∧ F.B ≤ b ∧
    w.heap[b]? = some (.cells cur et.1 et.2) ∧ RoomSz cur et.2 (o + c * (g.ov T).2))

/-- The block in which a slice has room. -/
def roomOf (p : Value × Nat) : Option Nat := match p.1 with
  | .slice (some a) m c => if m < c then some a.block else none
  | _ => none

structure HeapRel (F : Fr) : Prop where
  box : ∀ id n fz c, lookO H id = some (.box n fz c) → BoxRel P H g w F id n fz c
  tok : ∀ T n, lookO H T = some (.tok n) → TokRel g w F T
  apart : ∀ id n fz c id' n' fz' c', lookO H id = some (.box n fz c) → lookO H id' = some (.box n' fz' c') → id ≠ id' → Real g id c → Real g id' c' → g.ι id n ≠ g.ι id' n'
  rooms : ∀ T n T' n', lookO H T = some (.tok n) → lookO H T' = some (.tok n') → T ≠ T' → ∀ b, roomOf (g.ov T) = some b → roomOf (g.ov T') ≠ some b
end

/-- The whole of it. -/
structure Inv (P : Program) (N : Nat) (F : Fr) (g : Gs) (s : St) (a : Act) (w : World) : Prop where
  slots : ∀ t, SRel P s.heap g w (look .poison s.slots t) (a.tmps.getD t undef)
  size : a.tmps.size = N
  defers : Marks F.m a.defers g.G w
  heap : HeapRel P s.heap g w F
  stp : Kp F.p F.G F.w g.G w
  lv : Lv F.t g.G w
  mt : F.m ≤ F.t
  hB : F.B ≤ w.heap.size
  objs : ∀ l o, (l, o) ∈ F.objs → w.heap[l]? = some o ∧ isRow o = false ∧ g.G l = .mine F.m
  pin : ∀ t, t ∈ F.pins → a.tmps.getD t undef = F.pv t
  yl : g.yl = F.yl
  hp : ∀ o, F.p o → Own.offs F.m o
  hrd : ∀ l, F.rd = some l → ∃ r, (l, Obj.loop r) ∈ F.objs
  lv0 : Lv F.t F.G F.w

/-- How the state may go on, such that what is in slots stays right. -/
structure Ext (H : Heap) (g : Gs) (H' : Heap) (g' : Gs) : Prop where
  box : ∀ id m fz c, lookO H id = some (.box m fz c) → ∃ m' fz' c', lookO H' id = some (.box m' fz' c') ∧ m ≤ m' ∧ (∀ n, n ≤ m → g'.ι id n = g.ι id n) ∧ (m' = m → g'.ov id = g.ov id ∧ rowOf c' = rowOf c)
  tok : ∀ T m, lookO H T = some (.tok m) → ∃ m', lookO H' T = some (.tok m') ∧ m ≤ m' ∧ (m' = m → g'.ov T = g.ov T)
  yl : g'.yl = g.yl

theorem Ext.refl (H : Heap) (g : Gs) : Ext H g H g := ⟨fun _ m fz c h => ⟨m, fz, c, h, Nat.le_refl _, fun _ _ => rfl, fun _ => ⟨rfl, rfl⟩⟩, fun _ m h => ⟨m, h, Nat.le_refl _, fun _ => rfl⟩, rfl⟩

theorem SRel0.ext {P : Program} {H H' : Heap} {g g' : Gs} {w w' : World} (he : Ext H g H' g') (ha : Adv g.G w g'.G w') : ∀ {s : S} {v : Value}, SRel0 P H g w s v → SRel0 P H' g' w' s v
  | .dat τ x, v, h => RepV.adv ha h
  | .lst .clip e x, v, h => ⟨RepV.adv ha h.1, h.2⟩
  | .lst .nn e x, v, h => ⟨RepV.adv ha h.1, h.2⟩
  | .lst (.tip T n) e x, v, h => ⟨RepV.adv ha h.1, by
      obtain ⟨m, h1, h2, h3⟩ := h.2
      obtain ⟨m', h4, h5, h6⟩ := he.tok T m h1
      refine ⟨m', h4, Nat.le_trans h2 h5, fun e => ?_⟩
      have hm : m = n := by omega
      rw [h6 (by omega), h3 hm]⟩
  | .ptr id n root π, v, h => by
      obtain ⟨m, fz, c, h1, h2, h3, h4⟩ := h
      obtain ⟨m', fz', c', h5, h6, h7, _⟩ := he.box id m fz c h1
      exact ⟨m', fz', c', h5, Nat.le_trans h2 h6, h3, by rw [h7 n h2]; exact h4⟩
  | .vec id n e, v, h => by
      obtain ⟨m, fz, c, h1, h2, h3⟩ := h
      obtain ⟨m', fz', c', h5, h6, h7, h8⟩ := he.box id m fz c h1
      refine ⟨m', fz', c', h5, Nat.le_trans h2 h6, fun e => ?_⟩
      obtain ⟨h9, h10⟩ := h3 (by omega)
      obtain ⟨k1, k2⟩ := h8 (by omega)
      rw [k1, k2]; exact ⟨h9, h10⟩
  | .eptr id n e i π, v, h => by
      obtain ⟨m, fz, c, h1, h2, h3, h4, h9⟩ := h
      obtain ⟨m', fz', c', h5, h6, h7, h8⟩ := he.box id m fz c h1
      refine ⟨m', fz', c', h5, Nat.le_trans h2 h6, h3, by rw [h7 n h2]; exact h4, fun e => ?_⟩
      obtain ⟨k1, k2⟩ := h8 (by omega)
      rw [k2]; exact h9 (by omega)
  | .row _ _, _, h => h
  | .fat _ _ _ _ _ _, _, h => h
  | .vsub id n e lo, v, h => by
      obtain ⟨m, fz, c, h1, h2, h3⟩ := h
      obtain ⟨m', fz', c', h5, h6, h7, h8⟩ := he.box id m fz c h1
      refine ⟨m', fz', c', h5, Nat.le_trans h2 h6, fun e => ?_⟩
      obtain ⟨h9, h10⟩ := h3 (by omega)
      obtain ⟨k1, k2⟩ := h8 (by omega)
      rw [k1, k2]; exact ⟨h9, h10⟩
  | .inn _ _, _, h => h
  | .once id n, v, h => by
      obtain ⟨m, fz, c, h1, h2, h3⟩ := h
      obtain ⟨m', fz', c', h5, h6, h7, h8⟩ := he.box id m fz c h1
      refine ⟨m', fz', c', h5, Nat.le_trans h2 h6, fun e => ?_⟩
      obtain ⟨k1, k2⟩ := h8 (by omega)
      rw [k1]; exact h3 (by omega)
  | .cptr τ x, v, h => CPtr.adv ha h
  | .fn ps rs f, v, h => FnRel.adv ha h
  | .seq es xs, v, h => SeqRel.adv ha h
  | .yld es, v, h => by
    have h : v = .func (.yield g.yl) #[] #[] := h
    show v = .func (.yield g'.yl) #[] #[]
    rw [he.yl]; exact h
  | .fref f, v, h => h
  | .tup _, _, h => h
  | .nil, v, h => h
  | .nilf, v, h => h
  | .gone, _, h => h
  | .poison, _, h => h

theorem SRel.ext {P : Program} {H H' : Heap} {g g' : Gs} {w w' : World} (he : Ext H g H' g') (ha : Adv g.G w g'.G w') {s : S} {v : Value} (h : SRel P H g w s v) : SRel P H' g' w' s v := by
  cases s with
  | tup l => obtain ⟨vs, h1, h2⟩ := h; exact ⟨vs, h1, h2.mono fun x y hxy => hxy.ext he ha⟩
  | _ => (unfold SRel at h ⊢; exact SRel0.ext (P := P) he ha h)

theorem SRel.of0 {P : Program} {H : Heap} {g : Gs} {w : World} {s : S} {v : Value} (h : SRel0 P H g w s v) : SRel P H g w s v := by
  cases s with
  | tup l => exact h.elim
  | _ => (unfold SRel; exact h)

theorem look_lookO {α : Type} (d : α) : ∀ (l : List (Nat × α)) (k : Nat), look d l k = (lookO l k).getD d
  | [], _ => rfl
  | (k', v') :: l, k => by
    simp only [look, lookO]
    cases Nat.beq k' k
    · simpa using look_lookO d l k
    · rfl

theorem lookO_cons {α : Type} (k k' : Nat) (v : α) (l : List (Nat × α)) : lookO ((k, v) :: l) k' = if k = k' then some v else lookO l k' := by
  simp only [lookO]
  by_cases h : k = k'
  · subst h; simp [Nat.beq_refl]
  · rw [if_neg h]
    have : Nat.beq k k' = false := by
      cases hb : Nat.beq k k' with
      | false => rfl
      | true => exact absurd (Nat.eq_of_beq_eq_true hb) h
    rw [this]; rfl

/-- An operand's value. -/
theorem Inv.ev {P : Program} {N : Nat} {F : Fr} {g : Gs} {s : St} {a : Act} {w : World} (h : Inv P N F g s a w) (x : Operand) : SRel P s.heap g w (s.ev x) (a.eval x) := by
  cases x with
  | tmp t =>
    exact h.slots t
  | const v =>
    simp only [St.ev, Act.eval]
    unfold ofV
    split
    · exact SRel.of0 ⟨_, rfl, rfl⟩
    · exact SRel.of0 ⟨_, rfl, rfl⟩
    · exact SRel.of0 ⟨_, rfl, rfl⟩
    · rename_i n c
      cases h1 : Nat.beq n 0 && Nat.beq c 0 with
      | true =>
        simp only [Bool.and_eq_true] at h1
        rw [cond_true, Nat.eq_of_beq_eq_true h1.1, Nat.eq_of_beq_eq_true h1.2]
        exact SRel.of0 rfl
      | false => exact SRel.of0 (s := .poison) trivial
    · exact SRel.of0 rfl
    · exact SRel.of0 (s := .poison) trivial
  | func f => exact SRel.of0 rfl
  | global _ => exact SRel.of0 (s := .poison) trivial

theorem getD_put {a : Act} {d : Nat} {v : Value} {t : Nat} (hd : d < a.tmps.size) : (a.put (some d) v).tmps.getD t undef = if d = t then v else a.tmps.getD t undef := by
  simp only [Act.put]
  by_cases h : d = t
  · subst h; rw [if_pos rfl]; simp [hd]
  · rw [if_neg h]; simp [Array.getElem?_setIfInBounds_ne h]
theorem size_put {a : Act} {d : Option Nat} {v : Value} : (a.put d v).tmps.size = a.tmps.size := by cases d <;> simp [Act.put]
theorem defers_put {a : Act} {d : Option Nat} {v : Value} : (a.put d v).defers = a.defers := by cases d <;> rfl

def dstLt (N : Nat) (F : Fr) : Option Nat → Prop
  | some d => d < N ∧ d ∉ F.pins
  | none => True

/-- The relation goes on behind an operation. -/
theorem Inv.app {P : Program} {N : Nat} {F : Fr} {g g' : Gs} {s : St} {a : Act} {w w' : World} (h : Inv P N F g s a w) {d : Option Nat} (hd : dstLt N F d) {e : Eff} {v : Value}
    (hx : Ext s.heap g (e.hw ++ s.heap) g') (hv : SRel P (e.hw ++ s.heap) g' w' e.val v) (hh : HeapRel P (e.hw ++ s.heap) g' w' F) (hs : Stp F g.G w g'.G w') :
    Inv P N F g' (s.app d e) (a.put d v) w' := by
  have ha := hs.kp.adv
  refine ⟨fun t => ?_, by rw [size_put]; exact h.size, by rw [defers_put]; exact h.defers.nc hs.nc, hh, h.stp.trans (hs.kp.mono h.hp), hs.lv h.lv, h.mt, Nat.le_trans h.hB hs.kp.size, fun l o hl => ?_, fun t ht => ?_, hx.yl.trans h.yl, h.hp, h.hrd, h.lv0⟩
  case refine_2 => obtain ⟨p, q, r⟩ := h.objs l o hl; obtain ⟨p', r'⟩ := hs.nc l _ p q; exact ⟨p', q, r'.trans r⟩
  case refine_3 =>
    cases d with
    | none => exact h.pin t ht
    | some d =>
      have hne : d ≠ t := fun e => hd.2 (by rw [e]; exact ht)
      rw [getD_put (by rw [h.size]; exact hd.1), if_neg hne]
      exact h.pin t ht
  cases d with
  | none => exact (h.slots t).ext hx ha
  | some d =>
    show SRel P (e.hw ++ s.heap) g' w' (look .poison ((d, e.val) :: s.slots) t) _
    rw [getD_put (by rw [h.size]; exact hd.1)]
    simp only [look]
    by_cases hdt : d = t
    · subst hdt
      rw [if_pos rfl, Nat.beq_refl, cond_true]
      exact hv
    · rw [if_neg hdt]
      have : Nat.beq d t = false := by
        cases hb : Nat.beq d t with
        | false => rfl
        | true => exact absurd (Nat.eq_of_beq_eq_true hb) hdt
      rw [this, cond_false]
      exact (h.slots t).ext hx ha

/-- An operation that leaves memory alone. -/
theorem Inv.val {P : Program} {N : Nat} {F : Fr} {g : Gs} {s : St} {a : Act} {w : World} (h : Inv P N F g s a w) {d : Option Nat} (hd : dstLt N F d) {rd : List Nat} {u : S} {v : Value}
    (hv : SRel P s.heap g w u v) : Inv P N F g (s.app d { val := u, rd := rd }) (a.put d v) w :=
  h.app hd (e := { val := u, rd := rd }) (Ext.refl _ _) hv h.heap (Stp.refl _ _ _)

theorem OwnRel.real {G : Gh} {w : World} {m B : Nat} {fz : Bool} {b : Nat} {e : Ty} {xs : List e.den} {v : Value} (h : OwnRel G w m B fz b e xs v) : (∃ ao k, v = .slice ao k 0) ∨ ((∃ ao k C, v = .slice ao k C ∧ C ≠ 0) ∧ b < w.heap.size ∧
    G b = (if fz = true then Own.stays else Own.mine m) ∧ ∃ cs et, w.heap[b]? = some (.cells cs et (0, 0))) := by
  obtain ⟨ao, C, h1, h2, h3⟩ := h
  by_cases hC : C = 0
  · subst hC; exact .inl ⟨ao, _, h1⟩
  · rcases h3 with h3 | ⟨h3, h4, cs, et, css, rest, h5, h6, h7, h8, h9⟩
    · exact absurd h3 hC
    · exact .inr ⟨⟨ao, _, C, h1, hC⟩, (Array.getElem?_eq_some_iff.1 h5).1, h9, cs, et, h5⟩

theorem BoxRel.of_con {P : Program} {H : Heap} {g : Gs} {w : World} {F : Fr} {id n : Nat} {fz : Bool} {c : S} (h : ∃ cs et, w.heap[g.ι id n]? = some (.cells cs et (0, 0)) ∧ ConRel P H g w c cs.toList ∧ g.G (g.ι id n) = (if fz = true then Own.stays else Own.mine F.m)) :
    BoxRel P H g w F id n fz c := by
  cases c with
  | row e xs => obtain ⟨_, _, _, h, _⟩ := h; exact h.elim
  | inn es xs => obtain ⟨_, _, _, h, _⟩ := h; exact h.elim
  | _ => exact h
theorem BoxRel.con {P : Program} {H : Heap} {g : Gs} {w : World} {F : Fr} {id n : Nat} {fz : Bool} {c : S} (hc : conC c = true) (h : BoxRel P H g w F id n fz c) :
    ∃ cs et, w.heap[g.ι id n]? = some (.cells cs et (0, 0)) ∧ ConRel P H g w c cs.toList ∧ g.G (g.ι id n) = (if fz = true then Own.stays else Own.mine F.m) := by
  cases c with
  | row e xs => cases hc
  | inn es xs => cases hc
  | _ => exact h
/-- The block of a row of the heap, where it has one. -/
theorem BoxRel.block {P : Program} {H : Heap} {g : Gs} {w : World} {F : Fr} {id n : Nat} {fz : Bool} {c : S} (h : BoxRel P H g w F id n fz c) (hr : Real g id c) :
    ∃ cs et, w.heap[g.ι id n]? = some (.cells cs et (0, 0)) ∧ g.G (g.ι id n) = (if fz = true then Own.stays else Own.mine F.m) := by
  cases hc : conC c with
  | true => obtain ⟨cs, et, h1, _, h2⟩ := h.con hc; exact ⟨cs, et, h1, h2⟩
  | false =>
    cases c with
    | row e xs =>
      rcases OwnRel.real h with ⟨ao, k, h1⟩ | ⟨_, _, h2, cs, et, h3⟩
      · rcases hr with hr | ⟨ao', m, C, h2, h3⟩
        · cases hr
        · rw [h1] at h2; cases h2; exact absurd rfl h3
      · exact ⟨cs, et, h3, h2⟩
    | inn es xs =>
      obtain ⟨f, caps, cs, et, h1, h2, h4, h5, h6⟩ : SealRel P g.G w F.m fz (g.ι id n) es xs (g.ov id).1 := h
      exact ⟨cs, et, h4, h5⟩
    | _ => cases hc
theorem ConRel.ext {P : Program} {H H' : Heap} {g g' : Gs} {w w' : World} (he : Ext H g H' g') (ha : Adv g.G w g'.G w') {c : S} {cs : List Value} (h : ConRel P H g w c cs) : ConRel P H' g' w' c cs := by
  cases c with
  | dat τ x => exact Rep.adv ha τ x _ h
  | lst k e x => obtain ⟨v, h5, h6⟩ := h; exact ⟨v, h5, h6.ext he ha⟩
  | fn ps rs f => obtain ⟨v, h5, h6⟩ := h; exact ⟨v, h5, h6.ext he ha⟩
  | seq es xs => obtain ⟨v, h5, h6⟩ := h; exact ⟨v, h5, h6.ext he ha⟩
  | ptr id n root π => obtain ⟨v, h5, h6⟩ := h; exact ⟨v, h5, h6.ext he ha⟩
  | yld es => obtain ⟨v, h5, h6⟩ := h; exact ⟨v, h5, h6.ext he ha⟩
  | fat τ x π k e ys => obtain ⟨h1, h2, h3, v, h5, h6⟩ := h; exact ⟨Rep.adv ha τ x _ h1, h2, h3, v, h5, h6.ext he ha⟩
  | _ => exact h.elim
theorem stepBeq_eq {a b : Step} (h : stepBeq a b = true) : a = b := by
  cases a <;> cases b <;> simp only [stepBeq, Bool.and_eq_true] at h
  · rw [Nat.eq_of_beq_eq_true h.1, Nat.eq_of_beq_eq_true h.2]
  · cases h
  · cases h
  · rw [Nat.eq_of_beq_eq_true h]
theorem pathBeq_eq : ∀ {a b : List Step}, pathBeq a b = true → a = b
  | [], [], _ => rfl
  | x :: a, y :: b, h => by
    simp only [pathBeq, Bool.and_eq_true] at h
    rw [stepBeq_eq h.1, pathBeq_eq h.2]
  | [], _ :: _, h => by cases h
  | _ :: _, [], h => by cases h
/-- A content as data. -/
theorem ConRel.unfat {P : Program} {H : Heap} {g : Gs} {w : World} {c : S} {cs : List Value} (h : ConRel P H g w c cs) {σ : Ty} {x : σ.den} (hu : unfat c = .dat σ x) : Rep g.G w σ x cs := by
  cases c with
  | dat τ y => cases hu; exact h
  | fat τ y π k e ys => cases hu; exact h.1
  | _ => cases hu
theorem unfat_conC {c : S} {σ : Ty} {x : σ.den} (hu : unfat c = .dat σ x) : conC c = true := by
  cases c with
  | dat τ y => rfl
  | fat τ y π k e ys => rfl
  | _ => cases hu
theorem boxD_some {s : St} {id n : Nat} {fz : Bool} {c : S} (h : s.boxD id n = some (fz, c)) : ∃ k, s.box id n = some (fz, k) ∧ unfat k = c := by
  unfold St.boxD at h
  split at h
  · rename_i fz' k hk
    cases h
    exact ⟨k, hk, rfl⟩
  · cases h
/-- A row of the heap goes on, where its block is as it was. -/
theorem BoxRel.step {P : Program} {H H' : Heap} {g g' : Gs} {w w' : World} {F : Fr} {id n n' : Nat} {fz : Bool} {c : S} (h : BoxRel P H g w F id n fz c) (hx : Ext H g H' g') (ha : Adv g.G w g'.G w') (hι : g'.ι id n' = g.ι id n) (hov : g'.ov id = g.ov id)
    (hw : Real g id c → g.ι id n < w.heap.size → w'.heap[g.ι id n]? = w.heap[g.ι id n]? ∧ g'.G (g.ι id n) = g.G (g.ι id n)) : BoxRel P H' g' w' F id n' fz c := by
  cases hc : conC c with
  | true =>
    obtain ⟨cs, et, h1, h2, h3⟩ := h.con hc
    obtain ⟨q1, q2⟩ := hw (.inl (by cases c <;> first | rfl | cases hc)) (Array.getElem?_eq_some_iff.1 h1).1
    exact BoxRel.of_con ⟨cs, et, by rw [hι, q1]; exact h1, h2.ext hx ha, by rw [hι, q2]; exact h3⟩
  | false =>
    cases c with
    | row e xs =>
      have h : OwnRel g.G w F.m F.B fz (g.ι id n) e xs (g.ov id).1 := h
      show OwnRel g'.G w' F.m F.B fz (g'.ι id n') e xs (g'.ov id).1
      rw [hι, hov]
      obtain ⟨ao, C, h1, h2, h3⟩ := h
      refine ⟨ao, C, h1, h2, ?_⟩
      by_cases hC : C = 0
      · exact .inl hC
      · rcases h3 with h3 | ⟨h3, h4, cs, et, css, rest, h5, h6, h7, h8, h9⟩
        · exact absurd h3 hC
        · obtain ⟨q1, q2⟩ := hw (.inr ⟨ao, _, C, h1, hC⟩) (Array.getElem?_eq_some_iff.1 h5).1
          exact .inr ⟨h3, h4, cs, et, css, rest, by rw [q1]; exact h5, h6, h7.mono fun x y hxy => Rep.adv ha e x y hxy, h8, by rw [q2]; exact h9⟩
    | inn es xs =>
      obtain ⟨f, caps, cs, et, h1, h2, h4, h5, h6⟩ : SealRel P g.G w F.m fz (g.ι id n) es xs (g.ov id).1 := h
      obtain ⟨q1, q2⟩ := hw (.inl rfl) (Array.getElem?_eq_some_iff.1 h4).1
      show SealRel P g'.G w' F.m fz (g'.ι id n') es xs (g'.ov id).1
      rw [hι, hov]
      exact ⟨f, caps, cs, et, h1, h2, q1.trans h4, q2.trans h5, fun τ G1 w1 ha1 => h6 τ G1 w1 (ha.trans ha1)⟩
    | _ => cases hc
theorem Real.of {g g' : Gs} {id : Nat} {c : S} (hov : g'.ov id = g.ov id) (h : Real g' id c) : Real g id c := by
  unfold Real at *; rw [hov] at h; exact h

/-- The frame with a draw, and the like: blocks alike. -/
theorem HeapRel.mono {P : Program} {H : Heap} {g : Gs} {w w' : World} {F : Fr} (h : HeapRel P H g w F) (hw : ∀ b : Nat, b < w.heap.size → w'.heap[b]? = w.heap[b]?) (g' : Gs)
    (hG : ∀ b, b < w.heap.size → g'.G b = g.G b) (hι : g'.ι = g.ι) (hov : g'.ov = g.ov) (hyl : g'.yl = g.yl) : HeapRel P H g' w' F := by
  have ha : Adv g.G w g'.G w' := ⟨fun b o v hc hs => by
    have hb := Cell.lt hc
    refine ⟨by rw [Cell.of_block (hw b hb)]; exact hc, ?_⟩
    unfold Gh.st at *
    rw [hG b hb]; exact hs⟩
  have hx : Ext H g H g' := ⟨fun _ m fz c h => ⟨m, fz, c, h, Nat.le_refl _, fun _ _ => by rw [hι], fun _ => ⟨by rw [hov], rfl⟩⟩, fun _ m h => ⟨m, h, Nat.le_refl _, fun _ => by rw [hov]⟩, hyl⟩
  refine ⟨fun id n fz c hl => (h.box id n fz c hl).step hx ha (by rw [hι]) (by rw [hov]) fun _ hb => ⟨hw _ hb, hG _ hb⟩, fun T n hl => ?_,
    fun id n fz c id' n' fz' c' h1 h2 hne r1 r2 => by rw [hι]; exact h.apart id n fz c id' n' fz' c' h1 h2 hne (r1.of (by rw [hov])) (r2.of (by rw [hov])), fun T n T' n' h1 h2 hne b hb => by rw [hov] at hb ⊢; exact h.rooms T n T' n' h1 h2 hne b hb⟩
  obtain ⟨ao, m, c, h1, h2, h3⟩ := h.tok T n hl
  refine ⟨ao, m, c, by rw [hov]; exact h1, h2, ?_⟩
  rcases h3 with h3 | ⟨b, o1, cur, et, h4, h5, h6, h7, h8⟩
  · exact .inl h3
  · have hlt : b < w.heap.size := (Array.getElem?_eq_some_iff.1 h7).1
    exact .inr ⟨b, o1, cur, et, h4, by rw [hG b hlt, hov]; exact h5, h6, by rw [hw b hlt]; exact h7, by rw [hov]; exact h8⟩

end Go.Vi

/- Parts of values: where their cells lie. -/
namespace Go.Vi

def splice (cs : List Value) (o : Nat) (c : List Value) : List Value := cs.take o ++ (c ++ cs.drop (o + c.length))

theorem castD_some {σ τ : Ty} {x : σ.den} {y : τ.den} (h : castD σ τ x = some y) : (⟨σ, x⟩ : D) = ⟨τ, y⟩ := by
  unfold castD at h
  split at h
  · rename_i hb
    have hst := Ty.eq_of_beq hb
    subst hst
    cases h; rfl
  · cases h
theorem castD_self (τ : Ty) (x y : τ.den) (h : castD τ τ x = some y) : x = y := by
  have := castD_some h
  cases this; rfl

theorem fldGet_ty : ∀ (nf i : Nat) (τ : Ty) (x : τ.den) (σ : Ty) (y : σ.den), fldGet nf i τ x = some ⟨σ, y⟩ → fldTy nf i τ = some σ := by
  intro nf i τ x
  fun_induction fldGet nf i τ x <;> intro σ y h
  · cases h; rfl
  · cases h; rfl
  · cases h; rfl
  · cases h; rfl
  · rename_i ih; exact ih σ y h
  · cases h

theorem fldTy_get : ∀ (nf i : Nat) (τ : Ty) (σ : Ty), fldTy nf i τ = some σ → ∀ x : τ.den, ∃ y, fldGet nf i τ x = some ⟨σ, y⟩ := by
  intro nf i τ
  fun_induction fldTy nf i τ <;> intro σ h x
  · cases h; exact ⟨_, rfl⟩
  · cases h; exact ⟨_, rfl⟩
  · cases h; exact ⟨_, rfl⟩
  · cases h; exact ⟨_, rfl⟩
  · rename_i ih; exact ih σ h x.2
  · cases h

theorem fldGet_rep {G : Gh} {w : World} : ∀ (nf i : Nat) (τ : Ty) (x : τ.den) (σ : Ty) (y : σ.den), fldGet nf i τ x = some ⟨σ, y⟩ → ∀ cs, Rep G w τ x cs →
    Rep G w σ y ((cs.drop (fldOff nf i τ)).take σ.size) ∧ fldOff nf i τ + σ.size ≤ cs.length := by
  intro nf i τ x
  fun_induction fldGet nf i τ x <;> intro σ y h cs hr
  · cases h
    have := Rep.size _ _ _ hr
    simp only [Ty.size] at this
    simp only [fldOff, List.drop_zero]
    rw [List.take_of_length_le (by omega)]
    exact ⟨hr, by omega⟩
  · cases h
    obtain ⟨c1, c2, rfl, h1, h2⟩ := hr
    have := Rep.size _ _ _ h1
    simp only [fldOff, List.drop_zero]
    rw [← this, List.take_left']
    · exact ⟨h1, by simp⟩
    · rfl
  · cases h
    obtain ⟨c1, c2, rfl, h1, h2⟩ := hr
    have e1 := Rep.size _ _ _ h1
    have e2 := Rep.size _ _ _ h2
    simp only [fldOff]
    rw [← e1, List.drop_left' rfl, ← e2, List.take_length]
    exact ⟨h2, by simp⟩
  · cases h
    obtain ⟨c1, c2, rfl, h1, h2⟩ := hr
    have := Rep.size _ _ _ h1
    simp only [fldOff, List.drop_zero]
    rw [← this, List.take_left']
    · exact ⟨h1, by simp⟩
    · rfl
  · rename_i nf i a b x ih
    obtain ⟨c1, c2, rfl, h1, h2⟩ := hr
    have e1 := Rep.size _ _ _ h1
    obtain ⟨h3, h4⟩ := ih σ y h c2 h2
    simp only [fldOff]
    rw [← e1, List.drop_append, List.drop_of_length_le (Nat.le_add_right _ _), List.nil_append, Nat.add_sub_cancel_left]
    exact ⟨h3, by simp; omega⟩
  · cases h

theorem splice_length {cs c : List Value} {o : Nat} (h : o + c.length ≤ cs.length) : (splice cs o c).length = cs.length := by
  simp [splice]; omega

theorem splice_left {c1 c2 c : List Value} (h : c.length = c1.length) : splice (c1 ++ c2) 0 c = c ++ c2 := by
  simp [splice, h]
theorem splice_right {c1 c2 c : List Value} (o : Nat) : splice (c1 ++ c2) (c1.length + o) c = c1 ++ splice c2 o c := by
  simp only [splice]
  rw [List.take_append, List.take_of_length_le (Nat.le_add_right _ _), Nat.add_sub_cancel_left, Nat.add_assoc, List.drop_append, List.drop_of_length_le (Nat.le_add_right _ _), List.nil_append, Nat.add_sub_cancel_left]
  simp
theorem splice_all {cs c : List Value} (h : c.length = cs.length) : splice cs 0 c = c := by
  simp [splice, h]

theorem fldSet_rep {G : Gh} {w : World} : ∀ (nf i : Nat) (τ : Ty) (x : τ.den) (d : D) (x' : τ.den), fldSet nf i τ x d = some x' → ∀ cs cy, Rep G w τ x cs → Rep G w d.1 d.2 cy →
    Rep G w τ x' (splice cs (fldOff nf i τ) cy) := by
  intro nf i τ x d
  fun_induction fldSet nf i τ x d <;> intro x' h cs cy hr hy
  · obtain ⟨σ, y⟩ := ‹D›
    have := castD_some h
    cases this
    have e1 := Rep.size _ _ _ hr
    have e2 := Rep.size _ _ _ hy
    simp only [Ty.size] at e1
    simp only [fldOff]
    rw [splice_all (by omega)]
    exact hy
  · obtain ⟨σ, y⟩ := ‹D›
    rw [Option.map_eq_some_iff] at h
    obtain ⟨z, hz, rfl⟩ := h
    have := castD_some hz
    cases this
    obtain ⟨c1, c2, rfl, h1, h2⟩ := hr
    simp only [fldOff]
    rw [splice_left (by rw [Rep.size _ _ _ hy, Rep.size _ _ _ h1])]
    exact ⟨_, _, rfl, hy, h2⟩
  · obtain ⟨σ, y⟩ := ‹D›
    rw [Option.map_eq_some_iff] at h
    obtain ⟨z, hz, rfl⟩ := h
    have := castD_some hz
    cases this
    obtain ⟨c1, c2, rfl, h1, h2⟩ := hr
    simp only [fldOff]
    rw [← Rep.size _ _ _ h1, ← Nat.add_zero c1.length, splice_right, splice_all (by rw [Rep.size _ _ _ hy, Rep.size _ _ _ h2])]
    exact ⟨_, _, rfl, h1, hy⟩
  · obtain ⟨σ, y⟩ := ‹D›
    rw [Option.map_eq_some_iff] at h
    obtain ⟨z, hz, rfl⟩ := h
    have := castD_some hz
    cases this
    obtain ⟨c1, c2, rfl, h1, h2⟩ := hr
    simp only [fldOff]
    rw [splice_left (by rw [Rep.size _ _ _ hy, Rep.size _ _ _ h1])]
    exact ⟨_, _, rfl, hy, h2⟩
  · rename_i ih
    rw [Option.map_eq_some_iff] at h
    obtain ⟨z, hz, rfl⟩ := h
    obtain ⟨c1, c2, rfl, h1, h2⟩ := hr
    simp only [fldOff]
    rw [← Rep.size _ _ _ h1, splice_right]
    exact ⟨_, _, rfl, h1, ih z hz _ _ h2 hy⟩
  · cases h

theorem flatten_drop_take {n : Nat} : ∀ {css : List (List Value)}, (∀ c ∈ css, c.length = n) → ∀ i, i < css.length → (css.flatten.drop (i * n)).take n = css.getD i []
  | c :: css, h, 0, _ => by
    have := h c (by simp)
    simp [this]
  | c :: css, h, i + 1, hi => by
    have hc := h c (by simp)
    rw [List.flatten_cons, Nat.succ_mul, Nat.add_comm, ← hc, List.drop_append, List.drop_of_length_le (Nat.le_add_right _ _), List.nil_append, Nat.add_sub_cancel_left, hc]
    simpa using flatten_drop_take (fun d hd => h d (by simp [hd])) i (by simpa using hi)

theorem flatten_set {n : Nat} {c' : List Value} (hc' : c'.length = n) : ∀ {css : List (List Value)}, (∀ c ∈ css, c.length = n) → ∀ i, i < css.length → (css.set i c').flatten = splice css.flatten (i * n) c'
  | c :: css, h, 0, _ => by
    have := h c (by simp)
    simp only [List.set_cons_zero, List.flatten_cons, Nat.zero_mul]
    rw [splice_left (by omega)]
  | c :: css, h, i + 1, hi => by
    have hc := h c (by simp)
    rw [List.set_cons_succ, List.flatten_cons, List.flatten_cons, Nat.succ_mul, Nat.add_comm (i * n), ← hc, splice_right, hc]
    rw [flatten_set hc' (fun d hd => h d (by simp [hd])) i (by simpa using hi)]

theorem Each.sizes {G : Gh} {w : World} {e : Ty} {xs : List e.den} {css : List (List Value)} (h : Each (Rep G w e) xs css) : ∀ c ∈ css, c.length = e.size :=
  h.right fun x y hxy => Rep.size e x y hxy

/-- An item's cells, in a row of them. -/
theorem Each.item {G : Gh} {w : World} {e : Ty} {xs : List e.den} {css : List (List Value)} (h : Each (Rep G w e) xs css) (i : Nat) (hi : i < xs.length) :
    Rep G w e (xs.getD i e.zero) ((css.flatten.drop (i * e.size)).take e.size) ∧ i * e.size + e.size ≤ css.flatten.length := by
  have hl := h.length
  rw [flatten_drop_take h.sizes i (by omega), flatten_length_const e.size css h.sizes, ← hl]
  refine ⟨h.getD e.zero [] i hi, ?_⟩
  have : (i + 1) * e.size ≤ xs.length * e.size := Nat.mul_le_mul_right _ hi
  rw [Nat.succ_mul] at this
  exact this

theorem stepGet_ty {s : Step} {d d' : D} (h : stepGet s d = some d') : stepTy s d.1 = some d'.1 := by
  obtain ⟨τ, x⟩ := d
  obtain ⟨σ, y⟩ := d'
  cases s with
  | fld nf i => exact fldGet_ty nf i τ x σ y h
  | idx i =>
    cases τ <;> simp only [stepGet, reduceCtorEq] at h
    cases h; rfl

theorem stepGet_rep {G : Gh} {w : World} {s : Step} {d d' : D} (h : stepGet s d = some d') (hin : stepIn s d.1) {cs : List Value} (hr : Rep G w d.1 d.2 cs) :
    Rep G w d'.1 d'.2 ((cs.drop (stepOff s d.1)).take d'.1.size) ∧ stepOff s d.1 + d'.1.size ≤ cs.length := by
  obtain ⟨τ, x⟩ := d
  obtain ⟨σ, y⟩ := d'
  cases s with
  | fld nf i => exact fldGet_rep nf i τ x σ y h cs hr
  | idx i =>
    cases τ <;> simp only [stepGet, reduceCtorEq] at h
    case arr n e =>
      cases h
      obtain ⟨hn, css, rfl, he⟩ := hr
      exact he.item i (by rw [hn]; exact hin)

theorem take_drop_take_drop (cs : List Value) (a n b m : Nat) (h : b + m ≤ n) : (((cs.drop a).take n).drop b).take m = (cs.drop (a + b)).take m := by
  rw [List.drop_take, List.take_take, List.drop_drop, Nat.min_eq_left (by omega)]

theorem pathGet_rep {G : Gh} {w : World} : ∀ (π : List Step) (d d' : D), pathGet π d = some d' → pathIn π d.1 → ∀ cs, Rep G w d.1 d.2 cs →
    Rep G w d'.1 d'.2 ((cs.drop (pathOff π d.1)).take d'.1.size) ∧ pathOff π d.1 + d'.1.size ≤ cs.length
  | [], d, d', h, _, cs, hr => by
    cases h
    have := Rep.size _ _ _ hr
    simp only [pathOff, List.drop_zero]
    rw [List.take_of_length_le (by omega)]
    exact ⟨hr, by omega⟩
  | s :: π, d, d', h, hin, cs, hr => by
    simp only [pathGet] at h
    rw [Option.bind_eq_some_iff] at h
    obtain ⟨d1, h1, h2⟩ := h
    have ht := stepGet_ty h1
    obtain ⟨h3, h4⟩ := stepGet_rep h1 hin.1 hr
    obtain ⟨h5, h6⟩ := pathGet_rep π d1 d' h2 (hin.2 _ ht) _ h3
    simp only [pathOff, ht]
    rw [List.length_take, List.length_drop] at h6
    rw [take_drop_take_drop _ _ _ _ _ (by omega)] at h5
    exact ⟨h5, by omega⟩

theorem splice_splice (cs c : List Value) (a n b : Nat) (h : b + c.length ≤ n) (hn : a + n ≤ cs.length) : splice cs a (splice ((cs.drop a).take n) b c) = splice cs (a + b) c := by
  have hl : (splice ((cs.drop a).take n) b c).length = n := by rw [splice_length (by simp; omega)]; simp; omega
  apply List.ext_getElem?
  intro i
  have e1 : ∀ (l : List Value) (o : Nat) (d : List Value), o + d.length ≤ l.length → ∀ j : Nat, (splice l o d)[j]? = if j < o then l[j]? else if j < o + d.length then d[j - o]? else l[j]? := by
    intro l o d hod j
    simp only [splice]
    rw [List.getElem?_append, List.length_take, Nat.min_eq_left (by omega)]
    by_cases h1 : j < o
    · rw [if_pos h1, if_pos h1, List.getElem?_take, if_pos h1]
    · rw [if_neg h1, if_neg h1, List.getElem?_append]
      by_cases h2 : j < o + d.length
      · rw [if_pos (by omega), if_pos h2]
      · rw [if_neg (by omega), if_neg h2, List.getElem?_drop]
        congr 1; omega
  rw [e1 cs a _ (by rw [hl]; exact hn), e1 cs (a + b) c (by omega), hl]
  by_cases h1 : i < a
  · rw [if_pos h1, if_pos (by omega)]
  · rw [if_neg h1]
    by_cases h2 : i < a + n
    · rw [if_pos h2, e1 _ _ _ (by rw [List.length_take, List.length_drop]; omega)]
      by_cases h3 : i < a + b
      · rw [if_pos (by omega), if_pos h3, List.getElem?_take, if_pos (by omega), List.getElem?_drop]
        congr 1; omega
      · rw [if_neg (by omega), if_neg h3]
        by_cases h4 : i < a + b + c.length
        · rw [if_pos (by omega), if_pos h4]
          congr 1; omega
        · rw [if_neg (by omega), if_neg h4, List.getElem?_take, if_pos (by omega), List.getElem?_drop]
          congr 1; omega
    · rw [if_neg h2, if_neg (by omega), if_neg (by omega)]

theorem pathGet_ty : ∀ (π : List Step) (d d' : D), pathGet π d = some d' → pathTy π d.1 = some d'.1
  | [], d, d', h => by cases h; rfl
  | s :: π, d, d', h => by
    simp only [pathGet] at h
    rw [Option.bind_eq_some_iff] at h
    obtain ⟨d1, h1, h2⟩ := h
    simp only [pathTy, stepGet_ty h1, Option.bind_some]
    exact pathGet_ty π d1 d' h2

theorem pathSet_ty : ∀ (π : List Step) (d y d' : D), pathSet π d y = some d' → d'.1 = d.1
  | [], d, y, d', h => by
    simp only [pathSet] at h
    rw [Option.map_eq_some_iff] at h
    obtain ⟨z, _, rfl⟩ := h
    rfl
  | .fld nf i :: π, ⟨τ, x⟩, y, d', h => by
    simp only [pathSet] at h
    rw [Option.bind_eq_some_iff] at h
    obtain ⟨d1, h1, h2⟩ := h
    rw [Option.bind_eq_some_iff] at h2
    obtain ⟨d2, h3, h4⟩ := h2
    rw [Option.map_eq_some_iff] at h4
    obtain ⟨z, _, rfl⟩ := h4
    rfl
  | .idx i :: π, ⟨τ, x⟩, y, d', h => by
    cases τ <;> simp only [pathSet, reduceCtorEq] at h
    rw [Option.bind_eq_some_iff] at h
    obtain ⟨d2, h3, h4⟩ := h
    rw [Option.map_eq_some_iff] at h4
    obtain ⟨z, _, rfl⟩ := h4
    rfl

theorem pathSet_rep {G : Gh} {w : World} : ∀ (π : List Step) (d y d' : D), pathSet π d y = some d' → pathIn π d.1 → ∀ cs cy, Rep G w d.1 d.2 cs → Rep G w y.1 y.2 cy →
    Rep G w d'.1 d'.2 (splice cs (pathOff π d.1) cy) ∧ pathOff π d.1 + cy.length ≤ cs.length
  | [], d, y, d', h, _, cs, cy, hr, hy => by
    simp only [pathSet] at h
    rw [Option.map_eq_some_iff] at h
    obtain ⟨z, hz, rfl⟩ := h
    obtain ⟨τ, x⟩ := d
    obtain ⟨σ, y⟩ := y
    have := castD_some hz
    cases this
    have e1 : cs.length = τ.size := Rep.size _ _ _ hr
    have e2 : cy.length = τ.size := Rep.size _ _ _ hy
    simp only [pathOff]
    rw [splice_all (by omega)]
    exact ⟨hy, by omega⟩
  | .fld nf i :: π, ⟨τ, x⟩, y, d', h, hin, cs, cy, hr, hy => by
    simp only [pathSet] at h
    rw [Option.bind_eq_some_iff] at h
    obtain ⟨d1, h1, h2⟩ := h
    rw [Option.bind_eq_some_iff] at h2
    obtain ⟨d2, h3, h4⟩ := h2
    rw [Option.map_eq_some_iff] at h4
    obtain ⟨z, h5, rfl⟩ := h4
    have ht := fldGet_ty nf i τ x _ _ h1
    obtain ⟨h6, h7⟩ := fldGet_rep (G := G) (w := w) nf i τ x _ _ h1 cs hr
    have hin2 := hin.2 d1.1 ht
    obtain ⟨h8, h9⟩ := pathSet_rep π d1 y d2 h3 hin2 _ cy h6 hy
    have h10 := fldSet_rep nf i τ x d2 z h5 cs _ hr h8
    rw [List.length_take, List.length_drop] at h9
    simp only [pathOff, stepTy, stepOff, ht]
    rw [splice_splice _ _ _ _ _ (by omega) (by omega)] at h10
    exact ⟨h10, by omega⟩
  | .idx i :: π, ⟨τ, x⟩, y, d', h, hin, cs, cy, hr, hy => by
    cases τ <;> simp only [pathSet, reduceCtorEq] at h
    case arr n e =>
      rw [Option.bind_eq_some_iff] at h
      obtain ⟨d2, h3, h4⟩ := h
      rw [Option.map_eq_some_iff] at h4
      obtain ⟨z, h5, rfl⟩ := h4
      obtain ⟨hn, css, rfl, he⟩ := hr
      have hi : i < n := hin.1
      obtain ⟨h6, h7⟩ := he.item i (by omega)
      have hin2 := hin.2 e rfl
      obtain ⟨h8, h9⟩ := pathSet_rep π ⟨e, List.getD x i e.zero⟩ y d2 h3 hin2 _ cy h6 hy
      have ht : d2.1 = e := pathSet_ty π ⟨e, List.getD x i e.zero⟩ y d2 h3
      obtain ⟨σ2, y2⟩ := d2
      subst ht
      have hzy := castD_self _ _ _ h5
      subst hzy
      rw [List.length_take, List.length_drop] at h9
      have hsz : (splice ((css.flatten.drop (i * σ2.size)).take σ2.size) (pathOff π σ2) cy).length = σ2.size := Rep.size _ _ _ h8
      simp only [pathOff, stepTy, stepOff]
      have h9' : pathOff π σ2 + cy.length ≤ min σ2.size (css.flatten.length - i * σ2.size) := h9
      have h7' : i * σ2.size + σ2.size ≤ css.flatten.length := h7
      have hlen : i < css.length := by rw [← he.length]; exact hn ▸ hi
      refine ⟨⟨by simp [hn], css.set i (splice ((css.flatten.drop (i * σ2.size)).take σ2.size) (pathOff π σ2) cy), ?_, he.set h8 i⟩, by omega⟩
      rw [flatten_set hsz he.sizes i hlen, splice_splice _ _ _ _ _ (by omega) (by omega)]

end Go.Vi

/- Operations that leave memory alone: what the interpreter says they come to is what they come to. -/
namespace Go.Vi
open Go.RowKit (Below)

def Out.is : Out → Eff → Prop
  | .fail, _ => False
  | .ok pre e', e => pre = true ∧ e = e'
  | .call _ o mk, e => ∃ r, o = some r ∧ e = mk r
  | .callO _ o mk, e => ∃ r, o = some r ∧ mk r = some e
  | .emit _ _, _ => False

theorem Out.run_some {R : Type} {em : EmR R} {o : Out} {K : Eff → Option R} {r : R} (h : o.run em K = some r) : (∃ e, o.is e ∧ K e = some r) ∨
    ∃ es x r1 r2, o = .emit es x ∧ K { val := .dat .bool false } = some r1 ∧ em.nil r1 = true ∧ K { val := .dat .bool true } = some r2 ∧ em.cons es x r2 = some r := by
  cases o with
  | fail => simp [Out.run] at h
  | ok pre e =>
    simp only [Out.run] at h
    cases pre with
    | true => exact .inl ⟨e, ⟨rfl, rfl⟩, h⟩
    | false => simp at h
  | call rs o mk =>
    simp only [Out.run] at h
    cases o with
    | none => simp [obind] at h
    | some x => exact .inl ⟨mk x, ⟨x, rfl, rfl⟩, h⟩
  | callO rs o mk =>
    simp only [Out.run] at h
    cases o with
    | none => simp [obind] at h
    | some x =>
      rw [obind_some] at h
      cases hm : mk x with
      | none => rw [hm] at h; cases h
      | some e => rw [hm, obind_some] at h; exact .inl ⟨e, ⟨x, rfl, hm⟩, h⟩
  | emit es x =>
    simp only [Out.run] at h
    cases h1 : K { val := .dat .bool false } with
    | none => rw [h1] at h; cases h
    | some r1 =>
      rw [h1, obind_some] at h
      cases hn : em.nil r1 with
      | false => rw [hn] at h; cases h
      | true =>
        rw [hn, cond_true] at h
        cases h2 : K { val := .dat .bool true } with
        | none => rw [h2] at h; cases h
        | some r2 => rw [h2, obind_some] at h; exact .inr ⟨es, x, r1, r2, rfl, rfl, hn, rfl, h⟩

/-- What an operation's run is to come to. -/
def OpOk (P : Program) (o : Oper) (a : Act) (w : World) (R : Value → World → Prop) : Prop :=
  match (execOp a.eval o).run P w with
  | .ok (.value v) w' => R v w'
  | .ok .skip w' => R undef w'
  | .ok (.enter f args) w' => Calls P f args w' fun e w'' => ∃ v, e = .returned v ∧ R v w''
  | _ => False

theorem OpOk.wp {P : Program} {o : Oper} {a : Act} {w : World} {R : Value → World → Prop} {K : Act → World → Prop} {Q : Exit → Act → World → Prop} (h : OpOk P o a w R) (hK : ∀ v w', R v w' → K (a.put o.dst v) w') : o.wp P a w K Q := by
  unfold OpOk at h
  unfold Oper.wp Oper.upon
  split at h
  · rename_i hr; rw [hr]; exact hK _ _ h
  · rename_i hr; rw [hr]; exact hK _ _ h
  · rename_i hr; rw [hr]
    exact h.mono fun e w' ⟨v, he, hR⟩ => by subst he; exact hK _ _ hR
  · exact h.elim

theorem OpOk.value {P : Program} {o : Oper} {a : Act} {w w' : World} {v : Value} {R : Value → World → Prop} (h : (execOp a.eval o).run P w = .ok (.value v) w') (hR : R v w') : OpOk P o a w R := by
  unfold OpOk; rw [h]; exact hR

theorem RepV.of_leaf {G : Gh} {w : World} {τ : Ty} {x : τ.den} {v : Value} (h : Rep G w τ x [v]) (ha : τ.agg = false) : RepV G w τ x v := ⟨[v], h, by simp [valOf, ha]⟩
theorem RepV.int {G : Gh} {w : World} {k : IntKind} {n : Int} {v : Value} (h : RepV G w (.int k) n v) : v = .int k n := by
  obtain ⟨cs, h1, h2⟩ := h
  simp only [Rep] at h1; subst h1; rw [h2]; rfl
theorem RepV.bool {G : Gh} {w : World} {b : Bool} {v : Value} (h : RepV G w .bool b v) : v = .bool b := by
  obtain ⟨cs, h1, h2⟩ := h
  simp only [Rep] at h1; subst h1; rw [h2]; rfl
theorem RepV.str {G : Gh} {w : World} {b : ByteArray} {v : Value} (h : RepV G w .str b v) : v = .string b := by
  obtain ⟨cs, h1, h2⟩ := h
  simp only [Rep] at h1; subst h1; rw [h2]; rfl
theorem RepV.mk_int {G : Gh} {w : World} (k : IntKind) (n : Int) : RepV G w (.int k) n (.int k n) := ⟨_, rfl, rfl⟩
theorem RepV.mk_bool {G : Gh} {w : World} (b : Bool) : RepV G w .bool b (.bool b) := ⟨_, rfl, rfl⟩
theorem RepV.mk_str {G : Gh} {w : World} (b : ByteArray) : RepV G w .str b (.string b) := ⟨_, rfl, rfl⟩

/-- A slice's own reading. -/
theorem RepV.slc {G : Gh} {w : World} {e : Ty} {xs : List e.den} {v : Value} (h : RepV G w (.slc e) xs v) : ∃ ao cap, v = .slice ao xs.length cap ∧ xs.length ≤ cap ∧
    match ao with
    | none => cap = 0
    | some a => (a.spot = none ∨ cap = 0) ∧ ∃ css : List (List Value), Each (Rep G w e) xs css ∧ ∀ j v, css.flatten[j]? = some v → Cell w a.block (a.off + j) = some v ∧ G.st a.block (a.off + j) := by
  obtain ⟨cs, h1, h2⟩ := h
  obtain ⟨ao, cap, h3, h4, h5⟩ := h1
  subst h3
  exact ⟨ao, cap, by rw [h2]; rfl, h4, h5⟩
theorem RepV.mk_slc {G : Gh} {w : World} {e : Ty} {xs : List e.den} {ao : Option Addr} {cap : Nat} (h : xs.length ≤ cap) (h' : match ao with
    | none => cap = 0
    | some a => (a.spot = none ∨ cap = 0) ∧ ∃ css : List (List Value), Each (Rep G w e) xs css ∧ ∀ j v, css.flatten[j]? = some v → Cell w a.block (a.off + j) = some v ∧ G.st a.block (a.off + j)) : RepV G w (.slc e) xs (.slice ao xs.length cap) :=
  ⟨_, ⟨ao, cap, rfl, h, h'⟩, rfl⟩

section
variable {P : Program} {H : Heap} {g : Gs} {w : World}

theorem SRel.asD {τ : Ty} {s : S} {v : Value} {x : τ.den} (h : SRel P H g w s v) (hx : asD τ s = some x) : RepV g.G w τ x v := by
  cases s with
  | dat σ y =>
    have := castD_some hx
    cases this
    exact h
  | lst k e y =>
    have := castD_some (σ := .slc e) hx
    cases this
    cases k with
    | clip => exact h.1
    | nn => exact h.1
    | tip T n => exact h.1
  | nil =>
    cases τ <;> simp only [Go.Vi.asD, reduceCtorEq] at hx
    cases hx
    have hv : v = .slice none 0 0 := h
    subst hv
    exact RepV.mk_slc (xs := []) (Nat.le_refl 0) rfl
  | _ => simp [Go.Vi.asD] at hx

/-- The value of an operation that leaves memory alone. -/
theorem ok_val {N : Nat} {F : Fr} {s : St} {a : Act} {o : Oper} {u : S} {rd : List Nat} {v : Value} (hinv : Inv P N F g s a w) (hd : dstLt N F o.dst)
    (hrun : (execOp a.eval o).run P w = .ok (.value v) w) (hv : SRel P s.heap g w u v) :
    OpOk P o a w fun v w' => ∃ g', Inv P N F g' (s.app o.dst { val := u, rd := rd }) (a.put o.dst v) w' :=
  .value hrun ⟨g, hinv.val hd hv⟩

theorem SRel.dat {τ : Ty} {x : τ.den} {v : Value} (h : RepV g.G w τ x v) : SRel P H g w (.dat τ x) v := h

theorem bin_int (op : BinOp) (t : TypeId) (x y : Operand) (k : IntKind) (m n : Int) (e : Eff) (h : (binI op k m n).is e) (hs : isShift op = false) :
    ∃ v, (do eqGuard op t x y (.int k m) (.int k n); binOp op t (.int k m) (.int k n) : Sem Value).run P w = .ok v w ∧ ∃ u, e = { val := u } ∧ ∀ H g, SRel P H g w u v := by
  cases op <;> simp only [binI, Out.is, Out.val, isShift] at h hs
  all_goals obtain ⟨hp, rfl⟩ := h
  case add => exact ⟨.int k (k.wrap (m + n)), by simp [eqGuard_at_int, binOp, Op.intArith], _, rfl, fun H g => SRel.dat (RepV.mk_int _ _)⟩
  case sub => exact ⟨.int k (k.wrap (m - n)), by simp [eqGuard_at_int, binOp, Op.intArith], _, rfl, fun H g => SRel.dat (RepV.mk_int _ _)⟩
  case mul => exact ⟨.int k (k.wrap (m * n)), by simp [eqGuard_at_int, binOp, Op.intArith], _, rfl, fun H g => SRel.dat (RepV.mk_int _ _)⟩
  case quo =>
    have hn : n ≠ 0 := by simpa using hp
    exact ⟨.int k (k.wrap (m.tdiv n)), by simp [eqGuard_at_int, binOp, Op.intDiv, hn], _, rfl, fun H g => SRel.dat (RepV.mk_int _ _)⟩
  case rem =>
    have hn : n ≠ 0 := by simpa using hp
    exact ⟨.int k (m.tmod n), by simp [eqGuard_at_int, binOp, Op.intDiv, hn], _, rfl, fun H g => SRel.dat (RepV.mk_int _ _)⟩
  case and => exact ⟨.int k (bitsI .and k m n), by simp [eqGuard_at_int, binOp, Op.intBits, bitsI], _, rfl, fun H g => SRel.dat (RepV.mk_int _ _)⟩
  case or => exact ⟨.int k (bitsI .or k m n), by simp [eqGuard_at_int, binOp, Op.intBits, bitsI], _, rfl, fun H g => SRel.dat (RepV.mk_int _ _)⟩
  case xor => exact ⟨.int k (bitsI .xor k m n), by simp [eqGuard_at_int, binOp, Op.intBits, bitsI], _, rfl, fun H g => SRel.dat (RepV.mk_int _ _)⟩
  case andNot => exact ⟨.int k (bitsI .andNot k m n), by simp [eqGuard_at_int, binOp, Op.intBits, bitsI], _, rfl, fun H g => SRel.dat (RepV.mk_int _ _)⟩
  case eql => exact ⟨.bool (m == n), by simp [eqGuard_at_int, binOp, Op.intCmp], _, rfl, fun H g => SRel.dat (RepV.mk_bool _)⟩
  case neq => exact ⟨.bool (m != n), by simp [eqGuard_at_int, binOp, Op.intCmp], _, rfl, fun H g => SRel.dat (RepV.mk_bool _)⟩
  case lss => exact ⟨.bool (decide (m < n)), by simp [eqGuard_at_int, binOp, Op.intCmp], _, rfl, fun H g => SRel.dat (RepV.mk_bool _)⟩
  case leq => exact ⟨.bool (decide (m ≤ n)), by simp [eqGuard_at_int, binOp, Op.intCmp], _, rfl, fun H g => SRel.dat (RepV.mk_bool _)⟩
  case gtr => exact ⟨.bool (decide (m > n)), by simp [eqGuard_at_int, binOp, Op.intCmp], _, rfl, fun H g => SRel.dat (RepV.mk_bool _)⟩
  case geq => exact ⟨.bool (decide (m ≥ n)), by simp [eqGuard_at_int, binOp, Op.intCmp], _, rfl, fun H g => SRel.dat (RepV.mk_bool _)⟩

theorem bin_shift (op : BinOp) (t : TypeId) (x y : Operand) (k l : IntKind) (m n : Int) (e : Eff) (h : (shiftI op k m n).is e) :
    ∃ v, (do eqGuard op t x y (.int k m) (.int l n); binOp op t (.int k m) (.int l n) : Sem Value).run P w = .ok v w ∧ ∃ u, e = { val := u } ∧ ∀ H g, SRel P H g w u v := by
  cases op <;> simp only [shiftI, Out.is] at h
  case shl =>
    obtain ⟨hp, rfl⟩ := h
    have hn : ¬ n < 0 := by simpa using hp
    exact ⟨.int k (shlI k m n), by simp [eqGuard_at_int, binOp, Op.shift, hn, shlI], _, rfl, fun H g => SRel.dat (RepV.mk_int _ _)⟩
  case shr =>
    obtain ⟨hp, rfl⟩ := h
    have hn : ¬ n < 0 := by simpa using hp
    exact ⟨.int k (shrI k m n), by simp [eqGuard_at_int, binOp, Op.shift, hn, shrI], _, rfl, fun H g => SRel.dat (RepV.mk_int _ _)⟩

/-- A part of a row of cells. -/
theorem run_part {tab : List (Nat × TE)} (T : Types P tab) {t : Nat} {te : TE} (ht : lookO tab t = some te) {cs : Array Value} {o : Nat} {y : te.ty.den}
    (hr : Rep g.G w te.ty y ((cs.toList.drop o).take te.ty.size)) (w' : World) : (part t cs o).run P w' = .ok (valOf te.ty ((cs.toList.drop o).take te.ty.size)) w' := by
  obtain ⟨d, hd, hagg⟩ := T.agg ht
  obtain ⟨i, hi, hsz, _⟩ := T.info ht
  unfold part isAgg
  by_cases ha : te.ty.agg = true
  · have hv : valOf te.ty ((cs.toList.drop o).take te.ty.size) = .agg (cs.extract o (o + te.ty.size)) := by
      unfold valOf
      rw [if_pos ha]
      congr 1
      apply Array.ext'
      simp [List.extract_eq_take_drop]
    rw [hv]
    rcases hagg.1 ha with ⟨fs, rfl⟩ | ⟨n, e, rfl⟩ <;> simp [run_underlying hd, sizeOf, typeInfo, hi, hsz]
  · obtain ⟨u, hu, _⟩ := hr.leaf (by simpa using ha)
    have hsz1 : te.ty.size = 1 := by have := Rep.size _ _ _ hr; rw [hu] at this; simpa using this.symm
    have ho : cs[o]? = some u := by
      have := congrArg (fun l => l[0]?) hu
      simp only [List.getElem?_take, List.getElem?_drop, hsz1] at this
      simpa using this
    have hv : valOf te.ty ((cs.toList.drop o).take te.ty.size) = u := by rw [hu]; simp [valOf, ha]
    rw [hv]
    have hd' : ∀ fs, d ≠ .struct fs := fun fs h => ha (hagg.2 (.inl ⟨fs, h⟩))
    have hd'' : ∀ n e, d ≠ .array n e := fun n e h => ha (hagg.2 (.inr ⟨n, e, h⟩))
    cases d <;> first | exact absurd rfl (hd' _) | exact absurd rfl (hd'' _ _) | simp [run_underlying hd, ho]

end
end Go.Vi

/- '==' of structs and arrays is the equality of what they hold. -/
namespace Go.Vi

section
variable {P : Program} {tab : List (Nat × TE)} (T : Types P tab) {G : Gh} {wr : World}
include T

/-- Items of types below a depth are compared rightly. -/
def EqAt (P : Program) (tab : List (Nat × TE)) (G : Gh) (wr : World) (d : Nat) : Prop :=
  ∀ t te, lookO tab t = some te → te.ty.eqs = true → te.ty.depth < d → ∀ (x y : te.ty.den) cx cy, Rep G wr te.ty x cx → Rep G wr te.ty y cy → ∀ w,
    (Op.equalIn d t (valOf te.ty cx) (valOf te.ty cy)).run P w = .ok (beqT te.ty x y) w

theorem eqFields_tail {d : Nat} (ih : EqAt P tab G wr d) : ∀ (nf : Nat) (σ : Ty) (x y : σ.den) (fs : List Field) (base : Nat) (cx cy : Array Value),
    nfOk nf σ = true → fs.length = nf → σ.eqs = true → σ.depth ≤ d →
    (∀ (k : Nat) f, fs[k]? = some f → f.name ≠ "_" ∧ f.offset = base + fldOff nf k σ ∧ ∃ τ tef, fldTy nf k σ = some τ ∧ lookO tab f.type = some tef ∧ tef.ty = τ ∧ τ.size ≠ 0) →
    Rep G wr σ x ((cx.toList.drop base).take σ.size) → Rep G wr σ y ((cy.toList.drop base).take σ.size) → ∀ w,
    (Op.eqFields d cx cy fs).run P w = .ok (beqT σ x y) w := by
  have one : ∀ (f : Field) (fs : List Field) (τ : Ty) (tef : TE) (x y : τ.den) (cx cy : Array Value) (o : Nat), f.name ≠ "_" → f.offset = o → lookO tab f.type = some tef → tef.ty = τ → τ.eqs = true → τ.depth < d →
      Rep G wr τ x ((cx.toList.drop o).take τ.size) → Rep G wr τ y ((cy.toList.drop o).take τ.size) → ∀ w b, (Op.eqFields d cx cy fs).run P w = .ok b w →
      (Op.eqFields d cx cy (f :: fs)).run P w = .ok (beqT τ x y && b) w := by
    intro f fs τ tef x y cx cy o hn ho hl hty he hd hx hy w b hrest
    subst hty
    subst ho
    have p1 := run_part T (g := ⟨G, fun _ _ => 0, fun _ => (undef, 0), 0⟩) (w := wr) hl hx w
    have p2 := run_part T (g := ⟨G, fun _ _ => 0, fun _ => (undef, 0), 0⟩) (w := wr) hl hy w
    have p3 := ih f.type tef hl he hd x y _ _ hx hy w
    simp only [Op.eqFields, hn, ne_eq, not_false_eq_true, if_true, Sem.run_bind, p1, p2, p3, Result.andThen_ok]
    cases beqT tef.ty x y
    · simp
    · simpa using hrest
  intro nf
  induction nf using Nat.strongRecOn with
  | _ nf ihn =>
    intro σ x y fs base cx cy hok hlen he hd hf hx hy w
    match nf, σ, x, y, hok, hlen, hf, ihn with
    | 0, .unit, x, y, _, hlen, _, _ =>
      obtain rfl := List.eq_nil_of_length_eq_zero hlen
      simp [Op.eqFields, beqT]
    | 1, .one a, x, y, _, hlen, hf, _ =>
      match fs, hlen with
      | [f], _ =>
        obtain ⟨h1, h2, τ, tef, h3, h4, h5, h6⟩ := hf 0 f rfl
        simp only [fldTy, Option.some.injEq] at h3
        subst h3
        simp only [fldOff, Nat.add_zero] at h2
        have := one f [] a tef x y cx cy base h1 h2 h4 h5 (by simpa [Ty.eqs] using he) (by simp [Ty.depth] at hd; omega) hx hy w true (by simp [Op.eqFields])
        rw [this]; simp [beqT]
    | 2, .pair a b, x, y, _, hlen, hf, _ =>
      match fs, hlen with
      | [f, f'], _ =>
        simp only [Ty.eqs, Bool.and_eq_true] at he
        simp only [Ty.depth] at hd
        obtain ⟨h1, h2, τ, tef, h3, h4, h5, h6⟩ := hf 0 f rfl
        obtain ⟨g1, g2, τ', tef', g3, g4, g5, g6⟩ := hf 1 f' rfl
        simp only [fldTy, Option.some.injEq] at h3 g3
        subst h3; subst g3
        simp only [fldOff, Nat.add_zero] at h2 g2
        have hx0 := fldGet_rep 2 0 (.pair a b) x a x.1 rfl _ hx
        have hx1 := fldGet_rep 2 1 (.pair a b) x b x.2 rfl _ hx
        have hy0 := fldGet_rep 2 0 (.pair a b) y a y.1 rfl _ hy
        have hy1 := fldGet_rep 2 1 (.pair a b) y b y.2 rfl _ hy
        simp only [fldOff, Ty.size] at hx0 hx1 hy0 hy1
        rw [take_drop_take_drop _ _ _ _ _ (by omega)] at hx0 hx1 hy0 hy1
        simp only [Nat.add_zero] at hx0 hy0
        have q := one f' [] b tef' x.2 y.2 cx cy (base + a.size) g1 g2 g4 g5 he.2 (by omega) hx1.1 hy1.1 w true (by simp [Op.eqFields])
        have := one f [f'] a tef x.1 y.1 cx cy base h1 h2 h4 h5 he.1 (by omega) hx0.1 hy0.1 w _ q
        rw [this]; simp [beqT]
    | n + 3, .pair a b, x, y, hok, hlen, hf, ihn =>
      match fs, hlen with
      | f :: fs, hlen =>
        simp only [Ty.eqs, Bool.and_eq_true] at he
        simp only [Ty.depth] at hd
        obtain ⟨h1, h2, τ, tef, h3, h4, h5, h6⟩ := hf 0 f rfl
        simp only [fldTy, Option.some.injEq] at h3
        subst h3
        simp only [fldOff, Nat.add_zero] at h2
        obtain ⟨c1, c2, e1, hx0, hx1⟩ := hx
        obtain ⟨d1, d2, e2, hy0, hy1⟩ := hy
        have s1 := Rep.size _ _ _ hx0
        have s2 := Rep.size _ _ _ hx1
        have s3 := Rep.size _ _ _ hy0
        have s4 := Rep.size _ _ _ hy1
        simp only [Ty.size] at e1 e2
        have ex0 : (cx.toList.drop base).take a.size = c1 := by
          have := congrArg (fun l => (l.drop 0).take a.size) e1
          simp only [List.drop_zero, List.take_take, Nat.min_eq_left (Nat.le_add_right a.size b.size)] at this
          rw [this, ← s1]; simp
        have ex1 : (cx.toList.drop (base + a.size)).take b.size = c2 := by
          have := congrArg (fun l => (l.drop a.size).take b.size) e1
          rw [take_drop_take_drop _ _ _ _ _ (by omega)] at this
          rw [this, ← s1, ← s2]; simp
        have ey0 : (cy.toList.drop base).take a.size = d1 := by
          have := congrArg (fun l => (l.drop 0).take a.size) e2
          simp only [List.drop_zero, List.take_take, Nat.min_eq_left (Nat.le_add_right a.size b.size)] at this
          rw [this, ← s3]; simp
        have ey1 : (cy.toList.drop (base + a.size)).take b.size = d2 := by
          have := congrArg (fun l => (l.drop a.size).take b.size) e2
          rw [take_drop_take_drop _ _ _ _ _ (by omega)] at this
          rw [this, ← s3, ← s4]; simp
        have q := ihn (n + 2) (by omega) b x.2 y.2 fs (base + a.size) cx cy (by simpa [nfOk] using hok) (by simpa using hlen) he.2 (by omega)
          (fun k f' hk => by
            obtain ⟨k1, k2, τ', tef', k3, k4, k5, k6⟩ := hf (k + 1) f' (by simpa using hk)
            simp only [fldTy, fldOff] at k2 k3
            exact ⟨k1, by omega, τ', tef', k3, k4, k5, k6⟩) (by rw [ex1]; exact hx1) (by rw [ey1]; exact hy1) w
        have := one f fs a tef x.1 y.1 cx cy base h1 h2 h4 h5 he.1 (by omega) (by rw [ex0]; exact hx0) (by rw [ey0]; exact hy0) w _ q
        rw [this]; simp [beqT]

theorem eqItems_all {d : Nat} (ih : EqAt P tab G wr d) {et : Nat} {tee : TE} (hl : lookO tab et = some tee) (he : tee.ty.eqs = true) (hd : tee.ty.depth < d) (cx cy : Array Value) :
    ∀ (n k : Nat) (xs ys : List tee.ty.den), xs.length = n → ys.length = n →
    (∀ i, i < n → Rep G wr tee.ty (xs.getD i tee.ty.zero) ((cx.toList.drop ((k + i) * tee.ty.size)).take tee.ty.size)) →
    (∀ i, i < n → Rep G wr tee.ty (ys.getD i tee.ty.zero) ((cy.toList.drop ((k + i) * tee.ty.size)).take tee.ty.size)) → ∀ w,
    (Op.eqItems d et tee.ty.size cx cy (List.range' k n)).run P w = .ok (beqL (beqT tee.ty) xs ys) w
  | 0, k, [], [], _, _, _, _, w => by simp [Op.eqItems, beqL]
  | n + 1, k, x :: xs, y :: ys, h1, h2, hx, hy, w => by
    have hx0 := hx 0 (by omega)
    have hy0 := hy 0 (by omega)
    have q := eqItems_all ih hl he hd cx cy n (k + 1) xs ys (by simpa using h1) (by simpa using h2)
      (fun i hi => by have := hx (i + 1) (by omega); rw [show k + 1 + i = k + (i + 1) by omega]; simpa using this)
      (fun i hi => by have := hy (i + 1) (by omega); rw [show k + 1 + i = k + (i + 1) by omega]; simpa using this) w
    have p1 := run_part T (g := ⟨G, fun _ _ => 0, fun _ => (undef, 0), 0⟩) (w := wr) hl hx0 w
    have p2 := run_part T (g := ⟨G, fun _ _ => 0, fun _ => (undef, 0), 0⟩) (w := wr) hl hy0 w
    have p3 := ih et tee hl he hd _ _ _ _ hx0 hy0 w
    simp only [Nat.add_zero] at p1 p2 p3
    simp only [List.range'_succ, Op.eqItems, Sem.run_bind, p1, p2, p3, Result.andThen_ok, beqL]
    have ex : (x :: xs).getD 0 tee.ty.zero = x := rfl
    have ey : (y :: ys).getD 0 tee.ty.zero = y := rfl
    rw [ex, ey]
    cases beqT tee.ty x y
    · simp
    · simpa using q

theorem eqAt : ∀ d, EqAt P tab G wr d
  | 0 => fun _ _ _ _ h => absurd h (by omega)
  | d + 1 => by
    intro t te hl he hd x y cx cy hx hy w
    obtain ⟨dd, hu, hdesc⟩ := T.under hl
    by_cases ha : te.ty.agg = true
    · have hvx : valOf te.ty cx = .agg cx.toArray := by simp [valOf, ha]
      have hvy : valOf te.ty cy = .agg cy.toArray := by simp [valOf, ha]
      rw [hvx, hvy]
      by_cases harr : ∃ n e, te.ty = .arr n e
      · obtain ⟨n, e, hty⟩ := harr
        obtain ⟨et, tee, h1, h2, h3⟩ := T.arr hl hty
        subst h3
        obtain ⟨i, hi, hsz, _⟩ := T.info h2
        rw [run_equalIn_array w d cx.toArray cy.toArray h1 hi]
        have hc : P.cellsOf et = tee.ty.size := by simp [Program.cellsOf, hi, hsz]
        rw [hc, List.range_eq_range']
        obtain ⟨ty, nf, bytes⟩ := te
        subst hty
        obtain ⟨hn, css, rfl, hex⟩ := hx
        obtain ⟨hm, dss, rfl, hey⟩ := hy
        simp only [Ty.eqs] at he
        simp only [Ty.depth] at hd
        have := eqItems_all T (eqAt d) h2 he (by omega) css.flatten.toArray dss.flatten.toArray n 0 x y hn hm
          (fun i hi => by rw [Nat.zero_add]; exact (hex.item i (by omega)).1) (fun i hi => by rw [Nat.zero_add]; exact (hey.item i (by omega)).1) w
        rw [this]; rfl
      · obtain ⟨fs, h1, h0, h2, h3⟩ := T.struct hl ha (fun n e h => harr ⟨n, e, h⟩)
        have hfo : P.fieldsOf t = fs := by simp [Program.fieldsOf, h1]
        rw [run_equalIn_struct w d t cx.toArray cy.toArray (by rw [hfo]; exact h1) (T.held hl), hfo]
        have sx := Rep.size _ _ _ hx
        have sy := Rep.size _ _ _ hy
        have := eqFields_tail T (eqAt d) te.nf te.ty x y fs.toList 0 cx.toArray cy.toArray h0 (by simpa using h2) he (by omega)
          (fun k f hk => by
            obtain ⟨k1, k2, τ, tef, k3, k4, k5, k6⟩ := h3 k f (by simpa using hk)
            exact ⟨k1, by omega, τ, tef, k3, k4, k5, k6⟩) (by simp only [List.drop_zero]; rw [List.take_of_length_le (by omega)]; exact hx) (by simp only [List.drop_zero]; rw [List.take_of_length_le (by omega)]; exact hy) w
        exact this
    · have ha' : te.ty.agg = false := by simpa using ha
      obtain ⟨ty, nf, bytes⟩ := te
      cases ty <;> simp only [Ty.agg, Bool.true_eq_false] at ha' <;> simp only [Ty.eqs, Bool.false_eq_true] at he
      case int k =>
        simp only [Rep] at hx hy
        subst hx; subst hy
        have hk : ∃ k', dd = .int k' := by
          cases dd <;> simp [descOk, Ty.beq] at hdesc
          exact ⟨_, rfl⟩
        obtain ⟨k', rfl⟩ := hk
        exact run_equalIn_int w d t k k' x y hu
      case bool =>
        simp only [Rep] at hx hy
        subst hx; subst hy
        have hk : dd = .bool := by
          cases dd <;> simp [descOk, Ty.beq] at hdesc
          rfl
        subst hk
        exact run_equalIn_bool' w d t x y hu
      case str =>
        simp only [Rep] at hx hy
        subst hx; subst hy
        have hk : dd = .string := by
          cases dd <;> simp [descOk, Ty.beq] at hdesc
          rfl
        subst hk
        have := run_equalIn_string (P := P) w d t x y hu
        simp only [valOf, Ty.agg, Bool.false_eq_true, if_false, List.headD_cons, beqT]
        rw [this, beq_toListBytes]
end
end Go.Vi
