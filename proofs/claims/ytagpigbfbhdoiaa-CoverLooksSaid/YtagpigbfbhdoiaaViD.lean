/- The relation of the interpreter's state to the model's frame and memory; what keeps it. -/
import Derived.Test.YtagpigbfbhdoiaaViC
import Derived.Deep.Draws
import Derived.RangeFuncNested
namespace Go.Vi
open Go.RowKit (Below)

/-- A call from one world to another one: nothing that was there has changed, nor whose it is. -/
structure Fwd (G : Gh) (w : World) (G' : Gh) (w' : World) : Prop where
  below : Below w.heap.size w w'
  own : ∀ b, b < w.heap.size → G' b = G b

theorem Cell.lt {w : World} {b o : Nat} {v : Value} (h : Cell w b o = some v) : b < w.heap.size := by
  unfold Cell World.cell? at h
  rcases Nat.lt_or_ge b w.heap.size with hb | hb
  · exact hb
  · rw [Array.getElem?_eq_none hb] at h; simp at h
theorem Cell.of_block {w w' : World} {b o : Nat} (h : w'.heap[b]? = w.heap[b]?) : Cell w' b o = Cell w b o := by
  unfold Cell; exact World.cell?_of_block (w := w) (a := ⟨b, o, none⟩) h

theorem Fwd.refl (G : Gh) (w : World) : Fwd G w G w := ⟨RowKit.Below.refl _ _, fun _ _ => rfl⟩
theorem Fwd.trans {G G' G'' : Gh} {w w' w'' : World} (h : Fwd G w G' w') (k : Fwd G' w' G'' w'') : Fwd G w G'' w'' :=
  ⟨h.below.trans (k.below.mono h.below.size), fun b hb => (k.own b (Nat.lt_of_lt_of_le hb h.below.size)).trans (h.own b hb)⟩
theorem Fwd.adv {G G' : Gh} {w w' : World} (h : Fwd G w G' w') : Adv G w G' w' :=
  ⟨fun b o v hc hs => by
    have hb := Cell.lt hc
    refine ⟨by rw [Cell.of_block (h.below.block b hb)]; exact hc, ?_⟩
    unfold Gh.st at *
    rw [h.own b hb]; exact hs⟩

/-- Blocks that a frame at level m leaves as they are; whose level is at most t; is above t. -/
def Own.offs (m : Nat) : Own → Prop
  | .stays => True
  | .mine j => j ≠ m
  | .room j _ => j ≠ m
def Own.upto (t : Nat) : Own → Prop
  | .stays => True
  | .mine j => j ≤ t
  | .room j _ => j ≤ t
def Own.above (t : Nat) : Own → Prop
  | .stays => True
  | .mine j => t < j
  | .room j _ => t < j
def Lv (t : Nat) (G : Gh) (w : World) : Prop := ∀ b, b < w.heap.size → (G b).upto t
theorem Own.upto_mono {t t' : Nat} (h : t ≤ t') : ∀ {o : Own}, o.upto t → o.upto t'
  | .stays, _ => trivial
  | .mine _, k => Nat.le_trans k h
  | .room _ _, k => Nat.le_trans k h
theorem Lv.mono {t t' : Nat} (h : t ≤ t') {G : Gh} {w : World} (k : Lv t G w) : Lv t' G w := fun b hb => Own.upto_mono h (k b hb)

/-- From one world to another one some blocks are kept. -/
structure Kp (p : Own → Prop) (G : Gh) (w : World) (G' : Gh) (w' : World) : Prop where
  os : w'.os = w.os
  tape : w'.tape = w.tape
  output : w'.output = w.output
  size : w.heap.size ≤ w'.heap.size
  same : ∀ b, b < w.heap.size → p (G b) → w'.heap[b]? = w.heap[b]? ∧ G' b = G b
  adv : Adv G w G' w'
theorem Kp.refl (p : Own → Prop) (G : Gh) (w : World) : Kp p G w G w := ⟨rfl, rfl, rfl, Nat.le_refl _, fun _ _ _ => ⟨rfl, rfl⟩, Adv.refl _ _⟩
theorem Kp.trans {p : Own → Prop} {G G' G'' : Gh} {w w' w'' : World} (h : Kp p G w G' w') (k : Kp p G' w' G'' w'') : Kp p G w G'' w'' :=
  ⟨k.os.trans h.os, k.tape.trans h.tape, k.output.trans h.output, Nat.le_trans h.size k.size, fun b hb hp => by
    obtain ⟨h1, h2⟩ := h.same b hb hp
    obtain ⟨k1, k2⟩ := k.same b (Nat.lt_of_lt_of_le hb h.size) (by rw [h2]; exact hp)
    exact ⟨k1.trans h1, k2.trans h2⟩, h.adv.trans k.adv⟩
theorem Kp.mono {p q : Own → Prop} (hq : ∀ o, q o → p o) {G G' : Gh} {w w' : World} (h : Kp p G w G' w') : Kp q G w G' w' :=
  ⟨h.os, h.tape, h.output, h.size, fun b hb hp => h.same b hb (hq _ hp), h.adv⟩
theorem Fwd.kp {G G' : Gh} {w w' : World} (h : Fwd G w G' w') (p : Own → Prop) : Kp p G w G' w' :=
  ⟨h.below.os, h.below.tape, h.below.output, h.below.size, fun b hb _ => ⟨h.below.block b hb, h.own b hb⟩, h.adv⟩
theorem Kp.fwd {p : Own → Prop} {G G' : Gh} {w w' : World} (h : Kp p G w G' w') (hp : ∀ b, b < w.heap.size → p (G b)) : Fwd G w G' w' :=
  ⟨⟨h.os, h.tape, h.output, h.size, fun b hb => (h.same b hb (hp b hb)).1⟩, fun b hb => (h.same b hb (hp b hb)).2⟩

/-- What is no row of cells stays. -/
def isRow : Obj → Bool
  | .cells _ _ _ => true
  | _ => false
def NC (G : Gh) (w : World) (G' : Gh) (w' : World) : Prop := ∀ (b : Nat) (o : Obj), w.heap[b]? = some o → isRow o = false → w'.heap[b]? = some o ∧ G' b = G b
theorem NC.refl (G : Gh) (w : World) : NC G w G w := fun _ _ h _ => ⟨h, rfl⟩
theorem NC.trans {G G' G'' : Gh} {w w' w'' : World} (h : NC G w G' w') (k : NC G' w' G'' w'') : NC G w G'' w'' := fun b o h1 h2 =>
  let ⟨p, q⟩ := h b o h1 h2
  let ⟨p', q'⟩ := k b o p h2
  ⟨p', q'.trans q⟩
theorem NC.of_blocks {G G' : Gh} {w w' : World} (h : ∀ b : Nat, b < w.heap.size → w'.heap[b]? = w.heap[b]?) (hG : ∀ b : Nat, b < w.heap.size → G' b = G b) : NC G w G' w' := fun b o h1 _ => by
  have hb := (Array.getElem?_eq_some_iff.1 h1).1
  exact ⟨by rw [h b hb]; exact h1, hG b hb⟩
theorem Fwd.nc {G G' : Gh} {w w' : World} (h : Fwd G w G' w') : NC G w G' w' := NC.of_blocks h.below.block h.own

/-- A frame of the run: its level; the highest level of any block; from which block on its own ones lie; a world that it came by, and what is kept from there on; the loop whose round it is; what it has beside rows of cells; temporaries that it does not write, and what they hold; the loop's body that it may call. -/
structure Fr where
  m : Nat
  t : Nat
  B : Nat
  G : Gh
  w : World
  p : Own → Prop
  rd : Option Nat
  objs : List (Nat × Obj)
  pins : List Nat
  pv : Nat → Value
  yl : Nat

/-- One step of a frame. -/
structure Stp (F : Fr) (G : Gh) (w : World) (G' : Gh) (w' : World) : Prop where
  kp : Kp (Own.offs F.m) G w G' w'
  lv : Lv F.t G w → Lv F.t G' w'
  nc : NC G w G' w'
theorem Stp.refl (F : Fr) (G : Gh) (w : World) : Stp F G w G w := ⟨Kp.refl _ _ _, fun h => h, NC.refl _ _⟩
theorem Stp.trans {F : Fr} {G G' G'' : Gh} {w w' w'' : World} (h : Stp F G w G' w') (k : Stp F G' w' G'' w'') : Stp F G w G'' w'' :=
  ⟨h.kp.trans k.kp, fun l => k.lv (h.lv l), h.nc.trans k.nc⟩
theorem Fwd.stp {G G' : Gh} {w w' : World} (h : Fwd G w G' w') {F : Fr} (hl : Lv F.t G w → Lv F.t G' w') : Stp F G w G' w' := ⟨h.kp _, hl, h.nc⟩

/-- The deferred calls that a loop over a function leaves: marks, of which nothing is to be called. -/
def mark (D : Nat) : Deferred := { target := .collected D, args := #[] }
def Marks (m : Nat) (ds : List Deferred) (G : Gh) (w : World) : Prop := ∃ Ds : List Nat, ds = Ds.map mark ∧ Ds.Nodup ∧ ∀ D ∈ Ds, w.heap[D]? = some (.deferred (some [])) ∧ G D = .mine m
theorem Marks.nil (m : Nat) (G : Gh) (w : World) : Marks m [] G w := ⟨[], rfl, List.nodup_nil, fun _ h => by cases h⟩
theorem Marks.nc {m : Nat} {ds : List Deferred} {G G' : Gh} {w w' : World} (h : Marks m ds G w) (k : NC G w G' w') : Marks m ds G' w' := by
  obtain ⟨Ds, h1, h2, h3⟩ := h
  exact ⟨Ds, h1, h2, fun D hD => let ⟨p, q⟩ := h3 D hD; let ⟨p', q'⟩ := k D _ p rfl; ⟨p', q'.trans q⟩⟩
theorem Marks.kp {m : Nat} {ds : List Deferred} {q : Own → Prop} {G G' : Gh} {w w' : World} (h : Marks m ds G w) (k : Kp q G w G' w') (hq : q (.mine m)) : Marks m ds G' w' := by
  obtain ⟨Ds, h1, h2, h3⟩ := h
  refine ⟨Ds, h1, h2, fun D hD => ?_⟩
  obtain ⟨p, r⟩ := h3 D hD
  obtain ⟨e1, e2⟩ := k.same D (Array.getElem?_eq_some_iff.1 p).1 (by rw [r]; exact hq)
  exact ⟨e1.trans p, e2.trans r⟩

/-- A tuple of arguments, or results. -/
def ArgsD (G : Gh) (w : World) : (ps : List Ty) → dens ps → List Value → Prop
  | [], _, vs => vs = []
  | [p], x, vs => ∃ v, vs = [v] ∧ RepV G w p x v
  | p :: q :: ps, x, vs => ∃ v vs', vs = v :: vs' ∧ RepV G w p x.1 v ∧ ArgsD G w (q :: ps) x.2 vs'

def tupVal (vs : List Value) : Value := match vs with
  | [v] => v
  | vs => .tuple vs.toArray

def ResD (G : Gh) (w : World) (rs : List Ty) (x : dens rs) (v : Value) : Prop := ∃ vs, ArgsD G w rs x vs ∧ v = tupVal vs

def Callable (P : Program) (f : FuncId) : Prop := ∃ fn, P.funcs[f]? = some fn ∧ fn.body.isSome = true ∧ (fn.name == "runtime.NumGoroutine") = false

/-- A function's value does as the function: it only makes memory. -/
def FnRel (P : Program) (G : Gh) (w : World) (ps rs : List Ty) (g : dens ps → Option (dens rs)) (v : Value) : Prop :=
  ∃ f caps, v = .func (.func f) #[] caps ∧ Callable P f ∧
    ∀ t G1 w1, Adv G w G1 w1 → Lv t G1 w1 → ∀ (xs : dens ps) vs, ArgsD G1 w1 ps xs vs → ∀ r, g xs = some r →
      Calls P f (vs.toArray ++ caps) w1 fun e w' => ∃ v G', e = .returned v ∧ Fwd G1 w1 G' w' ∧ Lv t G' w' ∧ ResD G' w' rs r v

theorem FnRel.adv {P : Program} {G G' : Gh} {w w' : World} (ha : Adv G w G' w') {ps rs : List Ty} {g : dens ps → Option (dens rs)} {v : Value} (h : FnRel P G w ps rs g v) : FnRel P G' w' ps rs g v :=
  let ⟨f, caps, h1, h2, h3⟩ := h
  ⟨f, caps, h1, h2, fun t G1 w1 ha1 => h3 t G1 w1 (ha.trans ha1)⟩

theorem ArgsD.adv {G G' : Gh} {w w' : World} (ha : Adv G w G' w') : ∀ (ps : List Ty) (x : dens ps) (vs : List Value), ArgsD G w ps x vs → ArgsD G' w' ps x vs
  | [], _, _, h => h
  | [_], _, _, ⟨v, h1, h2⟩ => ⟨v, h1, h2.adv ha⟩
  | _ :: q :: ps, x, _, ⟨v, vs', h1, h2, h3⟩ => ⟨v, vs', h1, h2.adv ha, ArgsD.adv ha (q :: ps) x.2 vs' h3⟩

/-- What a loop leaves be while the function runs that it goes over; what that function's hand-over of an item does. -/
def Abide {R : Type} (τ : Nat) (J : R → Gh → World → Prop) : Prop := ∀ r G w G' w', J r G w → Kp (Own.upto τ) G w G' w' → J r G' w'
def YieldOk {R : Type} (P : Program) (l τ : Nat) (em : EmR R) (J : R → Gh → World → Prop) : Prop :=
  ∀ es x r rout, em.cons es x r = some rout → ∀ G w vs t, J rout G w → Lv t G w → τ ≤ t → ArgsD G w es x vs →
    YieldAt Fence.wide 0 P l vs.toArray w fun e w' => ∃ b G', e = .returned (.bool b) ∧ Kp (Own.above τ) G w G' w' ∧ Lv t G' w' ∧ (b = true → J r G' w') ∧ (b = false → ∀ rn, em.nil rn = true → J rn G' w')

/-- A function's value that hands over these items. -/
def SeqRun (P : Program) (f : FuncId) (first caps : Array Value) (es : List Ty) (xs : List (dens es)) (τ : Nat) (G : Gh) (w : World) : Prop :=
  ∀ l (J : List (dens es) → Gh → World → Prop), Abide τ J → YieldOk P l τ (EmR.seq es) J → J xs G w →
    Calls P f (first ++ #[.func (.yield l) #[] #[]] ++ caps) w fun e w' => ∃ v G', e = .returned v ∧ J [] G' w'
def SeqRel (P : Program) (G : Gh) (w : World) (es : List Ty) (xs : List (dens es)) (v : Value) : Prop :=
  ∃ f first caps, v = .func (.func f) first caps ∧ Callable P f ∧ ∀ τ G1 w1, Adv G w G1 w1 → Lv τ G1 w1 → SeqRun P f first caps es xs τ G1 w1
theorem SeqRel.adv {P : Program} {G G' : Gh} {w w' : World} (ha : Adv G w G' w') {es : List Ty} {xs : List (dens es)} {v : Value} (h : SeqRel P G w es xs v) : SeqRel P G' w' es xs v :=
  let ⟨f, first, caps, h1, h2, h3⟩ := h
  ⟨f, first, caps, h1, h2, fun τ G1 w1 ha1 => h3 τ G1 w1 (ha.trans ha1)⟩

/-- A pointer to cells that stay, and hold a value. -/
def CPtr (G : Gh) (w : World) (τ : Ty) (x : τ.den) (v : Value) : Prop :=
  ∃ b o cs, v = .pointer (some ⟨b, o, none⟩) ∧ Rep G w τ x cs ∧ ∀ j c, cs[j]? = some c → Cell w b (o + j) = some c ∧ G.st b (o + j)
theorem CPtr.adv {G G' : Gh} {w w' : World} (ha : Adv G w G' w') {τ : Ty} {x : τ.den} {v : Value} (h : CPtr G w τ x v) : CPtr G' w' τ x v :=
  let ⟨b, o, cs, h1, h2, h3⟩ := h
  ⟨b, o, cs, h1, Rep.adv ha τ x cs h2, fun j c hc => let ⟨p, q⟩ := h3 j c hc; ha.cell _ _ _ p q⟩

/-- What the relation keeps beside the state: whose the blocks are; where the variables lie; which slice has the right to its room, and how many cells an item of it has. -/
structure Gs where
  G : Gh
  ι : Nat → Nat → Nat
  ov : Nat → Value × Nat
  yl : Nat

/-- A step's index lies in the row. -/
def stepIn : Step → Ty → Prop
  | .fld _ _, _ => True
  | .idx i, .arr n _ => i < n
  | .idx _, _ => True
def pathIn : List Step → Ty → Prop
  | [], _ => True
  | s :: π, τ => stepIn s τ ∧ ∀ σ, stepTy s τ = some σ → pathIn π σ

abbrev Heap := List (Nat × HC)

section
variable (P : Program) (H : Heap) (g : Gs) (w : World)
def SRel0 : S → Value → Prop
  | .dat τ x, v => RepV g.G w τ x v
  | .lst .clip e x, v => RepV g.G w (.slc e) x v ∧ ∃ ao n, v = .slice ao n n
  | .lst .nn e x, v => RepV g.G w (.slc e) x v ∧ ∃ a n c, v = .slice (some a) n c
  | .lst (.tip T n) e x, v => RepV g.G w (.slc e) x v ∧ ∃ m, lookO H T = some (.tok m) ∧ n ≤ m ∧ (m = n → g.ov T = (v, e.size))
  | .ptr id n root π, v => ∃ m fz c, lookO H id = some (.box m fz c) ∧ n ≤ m ∧ pathIn π root ∧ v = .pointer (some ⟨g.ι id n, pathOff π root, none⟩)
  | .cptr τ x, v => CPtr g.G w τ x v
  | .fn ps rs f, v => FnRel P g.G w ps rs f v
  | .seq es xs, v => SeqRel P g.G w es xs v
  | .yld _, v => v = .func (.yield g.yl) #[] #[]
  | .fref f, v => v = .func (.func f) #[] #[]
  | .tup _, _ => False
  | .nil, v => v = .slice none 0 0
  | .nilf, v => v = .nilFunc
  | .gone, v => v = undef
  | .poison, _ => True
def SRel : S → Value → Prop
  | .tup l, v => ∃ vs : List Value, v = .tuple vs.toArray ∧ Each (SRel0 P H g w) l vs
  | s, v => SRel0 P H g w s v

/-- What a variable holds. -/
def ConRel : S → List Value → Prop
  | .dat τ x, cs => Rep g.G w τ x cs
  | .lst k e x, cs => ∃ v, cs = [v] ∧ SRel0 P H g w (.lst k e x) v
  | .fn ps rs f, cs => ∃ v, cs = [v] ∧ SRel0 P H g w (.fn ps rs f) v
  | .seq es xs, cs => ∃ v, cs = [v] ∧ SRel0 P H g w (.seq es xs) v
  | .ptr id n root π, cs => ∃ v, cs = [v] ∧ SRel0 P H g w (.ptr id n root π) v
  | .yld es, cs => ∃ v, cs = [v] ∧ SRel0 P H g w (.yld es) v
  | _, _ => False

def BoxRel (F : Fr) (id n : Nat) (fz : Bool) (c : S) : Prop :=
  ∃ cs et, w.heap[g.ι id n]? = some (.cells cs et (0, 0)) ∧ ConRel P H g w c cs.toList ∧ g.G (g.ι id n) = (if fz = true then Own.stays else Own.mine F.m)

/-- The slice that has the right to its room. -/
def TokRel (F : Fr) (T : Nat) : Prop :=
  ∃ ao m c, (g.ov T).1 = .slice ao m c ∧ m ≤ c ∧ (m = c ∨ ∃ b cur et, ao = some ⟨b, 0, none⟩ ∧ g.G b = .room F.m (m * (g.ov T).2) ∧ F.B ≤ b ∧
    w.heap[b]? = some (.cells cur et (0, 0)) ∧ cur.size = c * (g.ov T).2)

/-- The block in which a slice has room. -/
def roomOf (p : Value × Nat) : Option Nat := match p.1 with
  | .slice (some a) m c => if m < c then some a.block else none
  | _ => none

structure HeapRel (F : Fr) : Prop where
  box : ∀ id n fz c, lookO H id = some (.box n fz c) → BoxRel P H g w F id n fz c
  tok : ∀ T n, lookO H T = some (.tok n) → TokRel g w F T
  apart : ∀ id n fz c id' n' fz' c', lookO H id = some (.box n fz c) → lookO H id' = some (.box n' fz' c') → id ≠ id' → g.ι id n ≠ g.ι id' n'
  rooms : ∀ T n T' n', lookO H T = some (.tok n) → lookO H T' = some (.tok n') → T ≠ T' → ∀ b, roomOf (g.ov T) = some b → roomOf (g.ov T') ≠ some b
end

/-- The whole of it. -/
structure Inv (P : Program) (N : Nat) (F : Fr) (g : Gs) (s : St) (a : Act) (w : World) : Prop where
  slots : ∀ t, SRel P s.heap g w (look .poison s.slots t) (a.tmps.getD t undef)
  size : a.tmps.size = N
  defers : Marks F.m a.defers g.G w
  heap : HeapRel P s.heap g w F
  stp : Kp F.p F.G F.w g.G w
  lv : Lv F.t g.G w
  mt : F.m ≤ F.t
  hB : F.B ≤ w.heap.size
  objs : ∀ l o, (l, o) ∈ F.objs → w.heap[l]? = some o ∧ isRow o = false ∧ g.G l = .mine F.m
  pin : ∀ t, t ∈ F.pins → a.tmps.getD t undef = F.pv t
  yl : g.yl = F.yl
  hp : ∀ o, F.p o → Own.offs F.m o
  hrd : ∀ l, F.rd = some l → ∃ r, (l, Obj.loop r) ∈ F.objs
  lv0 : Lv F.t F.G F.w

/-- How the state may go on, such that what is in slots stays right. -/
structure Ext (H : Heap) (g : Gs) (H' : Heap) (g' : Gs) : Prop where
  box : ∀ id m fz c, lookO H id = some (.box m fz c) → ∃ m' fz' c', lookO H' id = some (.box m' fz' c') ∧ m ≤ m' ∧ ∀ n, n ≤ m → g'.ι id n = g.ι id n
  tok : ∀ T m, lookO H T = some (.tok m) → ∃ m', lookO H' T = some (.tok m') ∧ m ≤ m' ∧ (m' = m → g'.ov T = g.ov T)
  yl : g'.yl = g.yl

theorem Ext.refl (H : Heap) (g : Gs) : Ext H g H g := ⟨fun _ m fz c h => ⟨m, fz, c, h, Nat.le_refl _, fun _ _ => rfl⟩, fun _ m h => ⟨m, h, Nat.le_refl _, fun _ => rfl⟩, rfl⟩

theorem SRel0.ext {P : Program} {H H' : Heap} {g g' : Gs} {w w' : World} (he : Ext H g H' g') (ha : Adv g.G w g'.G w') : ∀ {s : S} {v : Value}, SRel0 P H g w s v → SRel0 P H' g' w' s v
  | .dat τ x, v, h => RepV.adv ha h
  | .lst .clip e x, v, h => ⟨RepV.adv ha h.1, h.2⟩
  | .lst .nn e x, v, h => ⟨RepV.adv ha h.1, h.2⟩
  | .lst (.tip T n) e x, v, h => ⟨RepV.adv ha h.1, by
      obtain ⟨m, h1, h2, h3⟩ := h.2
      obtain ⟨m', h4, h5, h6⟩ := he.tok T m h1
      refine ⟨m', h4, Nat.le_trans h2 h5, fun e => ?_⟩
      have hm : m = n := by omega
      rw [h6 (by omega), h3 hm]⟩
  | .ptr id n root π, v, h => by
      obtain ⟨m, fz, c, h1, h2, h3, h4⟩ := h
      obtain ⟨m', fz', c', h5, h6, h7⟩ := he.box id m fz c h1
      exact ⟨m', fz', c', h5, Nat.le_trans h2 h6, h3, by rw [h7 n h2]; exact h4⟩
  | .cptr τ x, v, h => CPtr.adv ha h
  | .fn ps rs f, v, h => FnRel.adv ha h
  | .seq es xs, v, h => SeqRel.adv ha h
  | .yld es, v, h => by
    have h : v = .func (.yield g.yl) #[] #[] := h
    show v = .func (.yield g'.yl) #[] #[]
    rw [he.yl]; exact h
  | .fref f, v, h => h
  | .tup _, _, h => h
  | .nil, v, h => h
  | .nilf, v, h => h
  | .gone, _, h => h
  | .poison, _, h => h

theorem SRel.ext {P : Program} {H H' : Heap} {g g' : Gs} {w w' : World} (he : Ext H g H' g') (ha : Adv g.G w g'.G w') {s : S} {v : Value} (h : SRel P H g w s v) : SRel P H' g' w' s v := by
  cases s with
  | tup l => obtain ⟨vs, h1, h2⟩ := h; exact ⟨vs, h1, h2.mono fun x y hxy => hxy.ext he ha⟩
  | _ => (unfold SRel at h ⊢; exact SRel0.ext (P := P) he ha h)

theorem SRel.of0 {P : Program} {H : Heap} {g : Gs} {w : World} {s : S} {v : Value} (h : SRel0 P H g w s v) : SRel P H g w s v := by
  cases s with
  | tup l => exact h.elim
  | _ => (unfold SRel; exact h)

theorem look_lookO {α : Type} (d : α) : ∀ (l : List (Nat × α)) (k : Nat), look d l k = (lookO l k).getD d
  | [], _ => rfl
  | (k', v') :: l, k => by
    simp only [look, lookO]
    cases Nat.beq k' k
    · simpa using look_lookO d l k
    · rfl

theorem lookO_cons {α : Type} (k k' : Nat) (v : α) (l : List (Nat × α)) : lookO ((k, v) :: l) k' = if k = k' then some v else lookO l k' := by
  simp only [lookO]
  by_cases h : k = k'
  · subst h; simp [Nat.beq_refl]
  · rw [if_neg h]
    have : Nat.beq k k' = false := by
      cases hb : Nat.beq k k' with
      | false => rfl
      | true => exact absurd (Nat.eq_of_beq_eq_true hb) h
    rw [this]; rfl

/-- An operand's value. -/
theorem Inv.ev {P : Program} {N : Nat} {F : Fr} {g : Gs} {s : St} {a : Act} {w : World} (h : Inv P N F g s a w) (x : Operand) : SRel P s.heap g w (s.ev x) (a.eval x) := by
  cases x with
  | tmp t =>
    exact h.slots t
  | const v =>
    simp only [St.ev, Act.eval]
    unfold ofV
    split
    · exact SRel.of0 ⟨_, rfl, rfl⟩
    · exact SRel.of0 ⟨_, rfl, rfl⟩
    · exact SRel.of0 ⟨_, rfl, rfl⟩
    · rename_i n c
      cases h1 : Nat.beq n 0 && Nat.beq c 0 with
      | true =>
        simp only [Bool.and_eq_true] at h1
        rw [cond_true, Nat.eq_of_beq_eq_true h1.1, Nat.eq_of_beq_eq_true h1.2]
        exact SRel.of0 rfl
      | false => exact SRel.of0 (s := .poison) trivial
    · exact SRel.of0 rfl
    · exact SRel.of0 (s := .poison) trivial
  | func f => exact SRel.of0 rfl
  | global _ => exact SRel.of0 (s := .poison) trivial

theorem getD_put {a : Act} {d : Nat} {v : Value} {t : Nat} (hd : d < a.tmps.size) : (a.put (some d) v).tmps.getD t undef = if d = t then v else a.tmps.getD t undef := by
  simp only [Act.put]
  by_cases h : d = t
  · subst h; rw [if_pos rfl]; simp [hd]
  · rw [if_neg h]; simp [Array.getElem?_setIfInBounds_ne h]
theorem size_put {a : Act} {d : Option Nat} {v : Value} : (a.put d v).tmps.size = a.tmps.size := by cases d <;> simp [Act.put]
theorem defers_put {a : Act} {d : Option Nat} {v : Value} : (a.put d v).defers = a.defers := by cases d <;> rfl

def dstLt (N : Nat) (F : Fr) : Option Nat → Prop
  | some d => d < N ∧ d ∉ F.pins
  | none => True

/-- The relation goes on behind an operation. -/
theorem Inv.app {P : Program} {N : Nat} {F : Fr} {g g' : Gs} {s : St} {a : Act} {w w' : World} (h : Inv P N F g s a w) {d : Option Nat} (hd : dstLt N F d) {e : Eff} {v : Value}
    (hx : Ext s.heap g (e.hw ++ s.heap) g') (hv : SRel P (e.hw ++ s.heap) g' w' e.val v) (hh : HeapRel P (e.hw ++ s.heap) g' w' F) (hs : Stp F g.G w g'.G w') :
    Inv P N F g' (s.app d e) (a.put d v) w' := by
  have ha := hs.kp.adv
  refine ⟨fun t => ?_, by rw [size_put]; exact h.size, by rw [defers_put]; exact h.defers.nc hs.nc, hh, h.stp.trans (hs.kp.mono h.hp), hs.lv h.lv, h.mt, Nat.le_trans h.hB hs.kp.size, fun l o hl => ?_, fun t ht => ?_, hx.yl.trans h.yl, h.hp, h.hrd, h.lv0⟩
  case refine_2 => obtain ⟨p, q, r⟩ := h.objs l o hl; obtain ⟨p', r'⟩ := hs.nc l _ p q; exact ⟨p', q, r'.trans r⟩
  case refine_3 =>
    cases d with
    | none => exact h.pin t ht
    | some d =>
      have hne : d ≠ t := fun e => hd.2 (by rw [e]; exact ht)
      rw [getD_put (by rw [h.size]; exact hd.1), if_neg hne]
      exact h.pin t ht
  cases d with
  | none => exact (h.slots t).ext hx ha
  | some d =>
    show SRel P (e.hw ++ s.heap) g' w' (look .poison ((d, e.val) :: s.slots) t) _
    rw [getD_put (by rw [h.size]; exact hd.1)]
    simp only [look]
    by_cases hdt : d = t
    · subst hdt
      rw [if_pos rfl, Nat.beq_refl, cond_true]
      exact hv
    · rw [if_neg hdt]
      have : Nat.beq d t = false := by
        cases hb : Nat.beq d t with
        | false => rfl
        | true => exact absurd (Nat.eq_of_beq_eq_true hb) hdt
      rw [this, cond_false]
      exact (h.slots t).ext hx ha

/-- An operation that leaves memory alone. -/
theorem Inv.val {P : Program} {N : Nat} {F : Fr} {g : Gs} {s : St} {a : Act} {w : World} (h : Inv P N F g s a w) {d : Option Nat} (hd : dstLt N F d) {rd : List Nat} {u : S} {v : Value}
    (hv : SRel P s.heap g w u v) : Inv P N F g (s.app d { val := u, rd := rd }) (a.put d v) w :=
  h.app hd (e := { val := u, rd := rd }) (Ext.refl _ _) hv h.heap (Stp.refl _ _ _)

/-- The frame with a draw, and the like: blocks alike. -/
theorem HeapRel.mono {P : Program} {H : Heap} {g : Gs} {w w' : World} {F : Fr} (h : HeapRel P H g w F) (hw : ∀ b : Nat, b < w.heap.size → w'.heap[b]? = w.heap[b]?) (g' : Gs)
    (hG : ∀ b, b < w.heap.size → g'.G b = g.G b) (hι : g'.ι = g.ι) (hov : g'.ov = g.ov) (hyl : g'.yl = g.yl) : HeapRel P H g' w' F := by
  have ha : Adv g.G w g'.G w' := ⟨fun b o v hc hs => by
    have hb := Cell.lt hc
    refine ⟨by rw [Cell.of_block (hw b hb)]; exact hc, ?_⟩
    unfold Gh.st at *
    rw [hG b hb]; exact hs⟩
  have hx : Ext H g H g' := ⟨fun _ m fz c h => ⟨m, fz, c, h, Nat.le_refl _, fun _ _ => by rw [hι]⟩, fun _ m h => ⟨m, h, Nat.le_refl _, fun _ => by rw [hov]⟩, hyl⟩
  refine ⟨fun id n fz c hl => ?_, fun T n hl => ?_, fun id n fz c id' n' fz' c' h1 h2 hne => by rw [hι]; exact h.apart id n fz c id' n' fz' c' h1 h2 hne, fun T n T' n' h1 h2 hne b hb => by rw [hov] at hb ⊢; exact h.rooms T n T' n' h1 h2 hne b hb⟩
  · obtain ⟨cs, et, h1, h2, h3⟩ := h.box id n fz c hl
    have hlt : g.ι id n < w.heap.size := (Array.getElem?_eq_some_iff.1 h1).1
    refine ⟨cs, et, by rw [hι, hw _ hlt]; exact h1, ?_, by rw [hι, hG _ hlt]; exact h3⟩
    cases c with
    | dat τ x => exact Rep.adv ha τ x _ h2
    | lst k e x => obtain ⟨v, h5, h6⟩ := h2; exact ⟨v, h5, h6.ext hx ha⟩
    | fn ps rs f => obtain ⟨v, h5, h6⟩ := h2; exact ⟨v, h5, h6.ext hx ha⟩
    | seq es xs => obtain ⟨v, h5, h6⟩ := h2; exact ⟨v, h5, h6.ext hx ha⟩
    | ptr id' n' root' π' => obtain ⟨v, h5, h6⟩ := h2; exact ⟨v, h5, h6.ext hx ha⟩
    | yld es => obtain ⟨v, h5, h6⟩ := h2; exact ⟨v, h5, h6.ext hx ha⟩
    | _ => exact h2.elim
  · obtain ⟨ao, m, c, h1, h2, h3⟩ := h.tok T n hl
    refine ⟨ao, m, c, by rw [hov]; exact h1, h2, ?_⟩
    rcases h3 with h3 | ⟨b, cur, et, h4, h5, h6, h7, h8⟩
    · exact .inl h3
    · have hlt : b < w.heap.size := (Array.getElem?_eq_some_iff.1 h7).1
      exact .inr ⟨b, cur, et, h4, by rw [hG b hlt, hov]; exact h5, h6, by rw [hw b hlt]; exact h7, by rw [hov]; exact h8⟩

end Go.Vi
