/- Regions, in whatever order. -/
import Derived.Test.YtagpigbfbhdoiaaViT
import Derived.OrdersIn
namespace Go.Vi

/-- One operation with its guard comes to an effect. -/
def Act1 (C : Ctx) (ops : Array Oper) (o : Oper) (s : St) (e : Eff) : Prop :=
  dstOk C o.dst = true ∧ match o.guard with
    | none => (evalOp C o s).is e
    | some (j, want) => ∃ g, dstOf ops j = some g ∧ ((∃ b, look .poison s.slots g = .dat .bool b ∧ ((b = want ∧ (evalOp C o s).is e) ∨ (b = !want ∧ e = { val := .gone }))) ∨ (look .poison s.slots g = .gone ∧ e = { val := .gone }))

theorem Act1.local {C : Ctx} {ops : Array Oper} {o : Oper} {s s' : St} {e : Eff} (h : Act1 C ops o s e) (hs : ∀ t ∈ o.looksAt ops, look .poison s.slots t = look .poison s'.slots t) (hh : ∀ id ∈ e.rd, lookO s.heap id = lookO s'.heap id) : Act1 C ops o s' e := by
  have hev : ∀ x ∈ o.op.operands, s.ev x = s'.ev x := by
    intro x hx
    cases x with
    | tmp t => exact hs t (List.mem_append_left _ (List.mem_filterMap.2 ⟨.tmp t, by simpa using hx, rfl⟩))
    | _ => rfl
  refine ⟨h.1, ?_⟩
  have h2 := h.2
  split at h2
  · exact evalOp_local h2 hev hh
  · rename_i j want hg
    obtain ⟨g, h3, h2⟩ := h2
    have hsl := hs g (by simp only [Oper.looksAt, hg]; exact List.mem_append_right _ (by unfold dstOf at h3; rw [h3]; simp))
    refine ⟨g, h3, ?_⟩
    rcases h2 with ⟨b, h4, h5⟩ | ⟨h4, h5⟩
    · refine .inl ⟨b, by rw [← hsl]; exact h4, ?_⟩
      rcases h5 with ⟨h6, h7⟩ | h5
      · exact .inl ⟨h6, evalOp_local h7 hev hh⟩
      · exact .inr h5
    · exact .inr ⟨by rw [← hsl]; exact h4, h5⟩
theorem Act1.eqv {C : Ctx} {ops : Array Oper} {o : Oper} {s s' : St} {e : Eff} (h : Act1 C ops o s e) (hs : s.eqv s') : Act1 C ops o s' e := h.local (fun t _ => hs.1 t) (fun id _ => hs.2 id)

theorem lookO_append {α : Type} (l m : List (Nat × α)) (k : Nat) : lookO (l ++ m) k = (lookO l k).or (lookO m k) := lookO_append_some l m k
theorem lookO_none {α : Type} : ∀ {l : List (Nat × α)} {k : Nat}, k ∉ l.map (·.1) → lookO l k = none
  | [], _, _ => rfl
  | (k', v) :: l, k, h => by
    rw [lookO_cons, if_neg (fun e => h (by simp [e]))]
    exact lookO_none (fun hh => h (by simp at hh; simp [hh]))

theorem look_cons {α : Type} (d : α) (k k' : Nat) (v : α) (l : List (Nat × α)) : look d ((k, v) :: l) k' = if k = k' then v else look d l k' := by
  simp only [look]
  by_cases h : k = k'
  · subst h; simp [Nat.beq_refl]
  · rw [if_neg h]
    have : Nat.beq k k' = false := by
      cases hb : Nat.beq k k' with
      | false => rfl
      | true => exact absurd (Nat.eq_of_beq_eq_true hb) h
    rw [this]; rfl

theorem app_slot {s : St} {d : Option Nat} {e : Eff} {t : Nat} (h : ∀ k, d = some k → k ≠ t) : look .poison (s.app d e).slots t = look .poison s.slots t := by
  cases d with
  | none => rfl
  | some k => exact (look_cons _ _ _ _ _).trans (if_neg (h k rfl))
theorem app_heap (s : St) (d : Option Nat) (e : Eff) (id : Nat) : lookO (s.app d e).heap id = (lookO e.hw id).or (lookO s.heap id) := lookO_append _ _ _

theorem eqv_app {s s' : St} (h : s.eqv s') (d : Option Nat) (e : Eff) : (s.app d e).eqv (s'.app d e) := by
  refine ⟨fun t => ?_, fun id => by rw [app_heap, app_heap, h.2]⟩
  cases d with
  | none => exact h.1 t
  | some k => exact ((look_cons _ _ _ _ _).trans (by rw [h.1 t])).trans (look_cons _ _ _ _ _).symm

theorem meet_spec : ∀ {l m : List Nat}, meet l m = false → ∀ k ∈ l, k ∉ m
  | [], _, _, _, hk => by cases hk
  | x :: l, m, h, k, hk => by
    simp only [meet] at h
    cases hb : mem x m with
    | true => rw [hb] at h; cases h
    | false =>
      rw [hb, cond_false] at h
      rcases List.mem_cons.1 hk with rfl | hk
      · intro hm
        rw [mem_iff.2 hm] at hb; cases hb
      · exact meet_spec h k hk

def fpOf (e : Eff) : List Nat × List Nat := (e.rd, e.hw.map (·.1))

theorem calm_spec {ops : Array Oper} {x y : Oper} {fx fy : List Nat × List Nat} (h : calm ops x y fx fy = true) :
    (∀ d, x.dst = some d → d ∉ y.looksAt ops ∧ y.dst ≠ some d) ∧ (∀ d, y.dst = some d → d ∉ x.looksAt ops) ∧ (∀ k ∈ fx.2, k ∉ fy.1) ∧ (∀ k ∈ fx.2, k ∉ fy.2) ∧ (∀ k ∈ fx.1, k ∉ fy.2) := by
  unfold calm at h
  simp only [Bool.and_eq_true, Bool.not_eq_true'] at h
  obtain ⟨⟨⟨⟨h1, h2⟩, h3⟩, h4⟩, h5⟩ := h
  refine ⟨fun d hd => ?_, fun d hd => ?_, meet_spec h3, meet_spec h4, meet_spec h5⟩
  · rw [hd] at h1
    simp only [Bool.and_eq_true, Bool.not_eq_true'] at h1
    refine ⟨fun hm => ?_, fun hy => ?_⟩
    · have := mem_iff.2 hm
      unfold usesOf at h1
      rw [this] at h1
      cases h1.1
    · rw [hy] at h1
      have h2 := h1.2
      simp only [Bool.not_eq_true'] at h2
      rw [Nat.beq_refl] at h2; cases h2
  · rw [hd] at h2
    intro hm
    have := mem_iff.2 hm
    unfold usesOf at h2
    simp only at h2
    rw [this] at h2
    cases h2

theorem swap {C : Ctx} {ops : Array Oper} {x y : Oper} {s : St} {ex ey : Eff} (hx : Act1 C ops x s ex) (hy : Act1 C ops y (s.app x.dst ex) ey) (hc : calm ops x y (fpOf ex) (fpOf ey) = true) :
    Act1 C ops y s ey ∧ Act1 C ops x (s.app y.dst ey) ex ∧ ((s.app x.dst ex).app y.dst ey).eqv ((s.app y.dst ey).app x.dst ex) := by
  obtain ⟨h1, h2, h3, h4, h5⟩ := calm_spec hc
  refine ⟨hy.local (fun t ht => app_slot fun k hk e => (h1 k hk).1 (e ▸ ht)) (fun id hid => ?_), hx.local (fun t ht => (app_slot fun k hk e => h2 k hk (e ▸ ht)).symm) (fun id hid => ?_), ?_, ?_⟩
  · rw [app_heap, lookO_none (fun hm => h3 id hm hid)]; rfl
  · rw [app_heap, lookO_none (fun hm => h5 id hid hm)]; rfl
  · intro t
    cases hdx : x.dst with
    | none =>
      cases hdy : y.dst with
      | none => rfl
      | some d' => rfl
    | some d =>
      cases hdy : y.dst with
      | none => rfl
      | some d' =>
        have hne : d ≠ d' := fun e => (h1 d hdx).2 (by rw [hdy, e])
        show look .poison ((d', ey.val) :: (d, ex.val) :: s.slots) t = look .poison ((d, ex.val) :: (d', ey.val) :: s.slots) t
        simp only [look_cons]
        by_cases e1 : d' = t
        · have e2 : d ≠ t := fun e => hne (e.trans e1.symm)
          rw [if_pos e1, if_neg e2, if_pos e1]
        · rw [if_neg e1, if_neg e1]
  · intro id
    simp only [app_heap]
    by_cases hm : id ∈ ex.hw.map (·.1)
    · rw [lookO_none (h4 id hm), Option.none_or, Option.none_or]
    · rw [lookO_none hm, Option.none_or, Option.none_or]

/-- The operations of a list of places, one behind the other. -/
def Runs (C : Ctx) (ops : Array Oper) (E : Nat → Eff) : List Nat → St → St → Prop
  | [], s, sf => s.eqv sf
  | i :: R, s, sf => ∃ o, ops[i]? = some o ∧ Act1 C ops o s (E i) ∧ Runs C ops E R (s.app o.dst (E i)) sf

theorem Runs.eqv {C : Ctx} {ops : Array Oper} {E : Nat → Eff} : ∀ {R : List Nat} {s s' sf : St}, Runs C ops E R s sf → s.eqv s' → Runs C ops E R s' sf
  | [], _, _, _, h, hs => hs.symm.trans h
  | _ :: _, _, _, _, ⟨o, h1, h2, h3⟩, hs => ⟨o, h1, h2.eqv hs, h3.eqv (eqv_app hs _ _)⟩

theorem Runs.front {C : Ctx} {ops : Array Oper} {E : Nat → Eff} {j : Nat} {oj : Oper} (hj : ops[j]? = some oj) {B : List Nat} {sf : St} : ∀ {A : List Nat} {s : St}, Runs C ops E (A ++ j :: B) s sf →
    (∀ i ∈ A, ∀ oi, ops[i]? = some oi → calm ops oi oj (fpOf (E i)) (fpOf (E j)) = true) → Act1 C ops oj s (E j) ∧ Runs C ops E (A ++ B) (s.app oj.dst (E j)) sf
  | [], s, h, _ => by
    obtain ⟨o, h1, h2, h3⟩ := h
    rw [hj] at h1
    cases h1
    exact ⟨h2, h3⟩
  | i :: A, s, h, hc => by
    obtain ⟨o, h1, h2, h3⟩ := h
    obtain ⟨h4, h5⟩ := Runs.front hj (A := A) h3 (fun k hk => hc k (by simp [hk]))
    obtain ⟨h6, h7, h8⟩ := swap h2 h4 (hc i (by simp) o h1)
    exact ⟨h6, o, h1, h7, h5.eqv h8⟩

/-! ### the model's side -/
theorem Ext.lookups {H H' : Heap} {g : Gs} (hH : ∀ id, lookO H id = lookO H' id) : Ext H g H' g :=
  ⟨fun id m fz c h => ⟨m, fz, c, by rw [← hH]; exact h, Nat.le_refl _, fun _ _ => rfl⟩, fun T m h => ⟨m, by rw [← hH]; exact h, Nat.le_refl _, fun _ => rfl⟩, rfl⟩

theorem HeapRel.lookups {P : Program} {H H' : Heap} {g : Gs} {w : World} {F : Fr} (h : HeapRel P H g w F) (hH : ∀ id, lookO H id = lookO H' id) : HeapRel P H' g w F := by
  have hx : Ext H g H' g := Ext.lookups hH
  refine ⟨fun id n fz c hl => ?_, fun T n hl => h.tok T n (by rw [hH]; exact hl), fun id n fz c id' n' fz' c' h1 h2 => h.apart id n fz c id' n' fz' c' (by rw [hH]; exact h1) (by rw [hH]; exact h2),
    fun T n T' n' h1 h2 => h.rooms T n T' n' (by rw [hH]; exact h1) (by rw [hH]; exact h2)⟩
  obtain ⟨cs, et, h1, h2, h3⟩ := h.box id n fz c (by rw [hH]; exact hl)
  exact ⟨cs, et, h1, h2.ext hx (Adv.refl _ _), h3⟩

theorem Inv.eqv {P : Program} {N : Nat} {F : Fr} {g : Gs} {s s' : St} {a : Act} {w : World} (h : Inv P N F g s a w) (hs : s.eqv s') : Inv P N F g s' a w := by
  refine ⟨fun t => ?_, h.size, h.defers, h.heap.lookups hs.2, h.stp, h.lv, h.mt, h.hB, h.objs, h.pin, h.yl, h.hp, h.hrd, h.lv0⟩
  rw [← hs.1 t]
  exact (h.slots t).ext (Ext.lookups hs.2) (Adv.refl _ _)

/-- A draw. -/
theorem Kp.drew {p : Own → Prop} {G : Gh} {w : World} : Kp p G w G w.drew := ⟨rfl, rfl, rfl, Nat.le_refl _, fun _ _ _ => ⟨rfl, rfl⟩, ⟨fun b o v hc hs => ⟨hc, hs⟩⟩⟩
theorem Inv.drew {P : Program} {N : Nat} {F : Fr} {g : Gs} {s : St} {a : Act} {w : World} (h : Inv P N F g s a w) : Inv P N F g s a { w with drawn := w.drawn + 1 } := by
  have ha : Adv g.G w g.G w.drew := ⟨fun b o v hc hs => ⟨hc, hs⟩⟩
  exact ⟨fun t => (h.slots t).ext (Ext.refl _ _) ha, h.size, h.defers, h.heap.mono (w' := w.drew) (fun _ _ => rfl) g (fun _ _ => rfl) rfl rfl rfl, h.stp.trans Kp.drew, h.lv, h.mt, h.hB, h.objs, h.pin, h.yl, h.hp, h.hrd, h.lv0⟩

/-- The frame from this place on. -/
def Fr.from (F : Fr) (G : Gh) (w : World) : Fr := { F with G := G, w := w, p := Own.offs F.m }
theorem Inv.rebase {P : Program} {N : Nat} {F : Fr} {g : Gs} {s : St} {a : Act} {w : World} (h : Inv P N F g s a w) : Inv P N (F.from g.G w) g s a w :=
  ⟨h.slots, h.size, h.defers, ⟨h.heap.box, h.heap.tok, h.heap.apart, h.heap.rooms⟩, Kp.refl _ _ _, h.lv, h.mt, h.hB, h.objs, h.pin, h.yl, fun _ hp => hp, h.hrd, h.lv⟩
theorem Inv.unbase {P : Program} {N : Nat} {F : Fr} {g0 : Gs} {s0 : St} {a0 : Act} {w0 : World} (h0 : Inv P N F g0 s0 a0 w0) {g : Gs} {s : St} {a : Act} {w : World} (h : Inv P N (F.from g0.G w0) g s a w) :
    Inv P N F g s a w ∧ Kp (Own.offs F.m) g0.G w0 g.G w :=
  ⟨⟨h.slots, h.size, h.defers, ⟨h.heap.box, h.heap.tok, h.heap.apart, h.heap.rooms⟩, h0.stp.trans (h.stp.mono h0.hp), h.lv, h.mt, h.hB, h.objs, h.pin, h.yl, h0.hp, h.hrd, h0.lv0⟩, h.stp⟩

/-- With what the frame's own steps leave be. -/
def Xok (F : Fr) (X : Gh → World → Prop) : Prop := ∀ G w G' w', X G w → Kp (Own.offs F.m) G w G' w' → X G' w'
def IX (P : Program) (N : Nat) (F : Fr) (X : Gh → World → Prop) (g : Gs) (s : St) (a : Act) (w : World) : Prop := Inv P N F g s a w ∧ X g.G w

/-- The fence of a frame. -/
def wr (rd : Option Nat) : Fence := { Fence.wide with round := rd }
theorem wr_fn {rd : Option Nat} {f : FuncId} : (wr rd).fn f := trivial
theorem callsIn_wr {rd : Option Nat} {n : Nat} {P : Program} {f : FuncId} {args : Array Value} {w : World} {R : Ending → World → Prop} (h : Calls P f args w R) : CallsIn (wr rd) n P f args w R :=
  (callsIn_wide (n := n)).2 h
theorem calls_of_wr {n : Nat} {P : Program} {f : FuncId} {args : Array Value} {w : World} {R : Ending → World → Prop} (h : CallsIn (wr none) n P f args w R) : Calls P f args w R :=
  (callsIn_wide (n := n)).1 h

theorem OpOk.wpIn {rd : Option Nat} {P : Program} {o : Oper} {a : Act} {w : World} {R : Value → World → Prop} {K : Act → World → Prop} {Q : Exit → Act → World → Prop} (hdef : ∀ c, o.op ≠ .defer c) (h : OpOk P o a w R) (hK : ∀ v w', R v w' → K (a.put o.dst v) w') : o.wpIn (wr rd) 0 P a w K Q := by
  refine ⟨fun _ _ => trivial, ?_⟩
  rw [Oper.semAt_eq _ _ _ hdef]
  unfold OpOk at h
  split at h
  · rename_i hr; rw [hr]; exact hK _ _ h
  · rename_i hr; rw [hr]; exact hK _ _ h
  · rename_i hr; rw [hr]
    refine ⟨fun hd => (by cases hd), callsIn_wr (h.mono fun e w' ⟨v, he, hR⟩ => ?_)⟩
    subst he; exact hK _ _ hR
  · exact h.elim

theorem evalOp_defer {C : Ctx} {o : Oper} {s : St} (h : evalOp C o s ≠ .fail) : ∀ c, o.op ≠ .defer c := by
  intro c hc
  apply h
  unfold evalOp
  rw [hc]
theorem is_ne {o : Out} {e : Eff} (h : o.is e) : o ≠ .fail := by intro e0; rw [e0] at h; exact h

section
variable {P : Program} {C : Ctx} (hC : CtxOk P C) {F : Fr} (hpins : F.pins = C.pins) {X : Gh → World → Prop} (hX : Xok F X)
include hC hpins hX

/-- One operation of a region, as the model does it. -/
theorem act1_wp {ops : Array Oper} {i : Nat} {o : Oper} (ho : ops[i]? = some o) {g : Gs} {s : St} {a : Act} {w : World} (hix : IX P C.ntmps F X g s a w) {e : Eff} (h : Act1 C ops o s e) {K : Act → World → Prop} {Q : Exit → Act → World → Prop}
    (hK : ∀ g' a' w', IX P C.ntmps F X g' (s.app o.dst e) a' w' → K a' w') : wpOpIn (wr F.rd) 0 P ops Q i K a w := by
  have hinv := hix.1
  unfold wpOpIn
  rw [ho]
  simp only
  have hd : dstLt C.ntmps F o.dst := by
    have h1 := h.1
    unfold dstOk at h1
    cases hdst : o.dst with
    | none => trivial
    | some d =>
      rw [hdst] at h1
      simp only [Bool.and_eq_true, Bool.not_eq_true'] at h1
      refine ⟨by simpa using h1.1, fun hm => ?_⟩
      rw [hpins] at hm
      rw [mem_iff.2 hm] at h1
      cases h1.2
  have good : (evalOp C o s).is e → o.wpIn (wr F.rd) 0 P a w K Q := fun he =>
    (evalOp_sound hC hinv.rebase hd he).wpIn (evalOp_defer (is_ne he)) fun v w' ⟨g', hi⟩ => by
      obtain ⟨i1, i2⟩ := hinv.unbase hi
      exact hK g' _ _ ⟨i1, hX _ _ _ _ hix.2 i2⟩
  have h2 := h.2
  split at h2
  · rename_i hg
    rw [if_pos (by simp [Region.wanted, hg])]
    exact good h2
  · rename_i j want hg
    obtain ⟨gd, h3, h2⟩ := h2
    have hs := hinv.slots gd
    rcases h2 with ⟨b, h4, h5⟩ | ⟨h4, rfl⟩
    · rw [h4] at hs
      have hv : a.tmps.getD gd undef = .bool b := RepV.bool hs
      have hlt : gd < a.tmps.size := by
        rcases Nat.lt_or_ge gd a.tmps.size with hlt | hge
        · exact hlt
        · rw [Array.getD_eq_getD_getElem?, Array.getElem?_eq_none hge] at hv
          cases hv
      have hget : a.tmps[gd]? = some (.bool b) := by
        rw [Array.getElem?_eq_getElem hlt]
        rw [Array.getD_eq_getD_getElem?, Array.getElem?_eq_getElem hlt] at hv
        exact congrArg some hv
      have hy : yielded ops a.tmps j = some b := by
        unfold yielded
        unfold dstOf at h3
        rw [h3]
        simp [hget]
      rcases h5 with ⟨rfl, h6⟩ | ⟨rfl, rfl⟩
      · rw [if_pos (by simp [Region.wanted, hg, hy])]
        exact good h6
      · rw [if_neg (by cases want <;> simp [Region.wanted, hg, hy])]
        exact ⟨fun _ _ => trivial, hK g _ _ ⟨hinv.val hd (SRel.of0 (s := .gone) rfl), hix.2⟩⟩
    · rw [h4] at hs
      have hv : a.tmps.getD gd undef = undef := hs
      have hy : yielded ops a.tmps j = none := by
        unfold yielded
        unfold dstOf at h3
        rw [h3]
        rcases Nat.lt_or_ge gd a.tmps.size with hlt | hge
        · rw [Array.getD_eq_getD_getElem?, Array.getElem?_eq_getElem hlt] at hv
          have hget : a.tmps[gd]? = some undef := by rw [Array.getElem?_eq_getElem hlt]; exact congrArg some hv
          simp [hget, undef]
        · simp [Array.getElem?_eq_none hge]
      rw [if_neg (by cases want <;> simp [Region.wanted, hg, hy])]
      exact ⟨fun _ _ => trivial, hK g _ _ ⟨hinv.val hd (SRel.of0 (s := .gone) rfl), hix.2⟩⟩

/-- Operations in the text's order. -/
theorem runs_wp {ops : Array Oper} {E : Nat → Eff} {Q : Exit → Act → World → Prop} : ∀ (R : List Nat) {g : Gs} {s sf : St} {a : Act} {w : World}, IX P C.ntmps F X g s a w → Runs C ops E R s sf →
    (∀ g' a' w', IX P C.ntmps F X g' sf a' w' → Q .normal a' w') → wpOpsIn (wr F.rd) 0 P ops Q R a w
  | [], g, s, sf, a, w, hinv, h, hQ => hQ _ _ _ ⟨hinv.1.eqv h, hinv.2⟩
  | i :: R, g, s, sf, a, w, hinv, ⟨o, h1, h2, h3⟩, hQ => by
    rw [wpOpsIn_cons]
    exact act1_wp hC hpins hX h1 hinv h2 fun g' a' w' hi => runs_wp R hi h3 hQ

/-- What an operation is behind, in the list of the rows. -/
def row (acc : List (List Nat)) (o : Oper) : List Nat := o.after.toList.foldl (fun l e => bif Region.binds .any e then union (acc.getD e.on []) (addTo l e.on) else l) []

omit hC hpins hX in
theorem befores_snoc (l : List Oper) (o : Oper) : befores (l ++ [o]) = befores l ++ [row (befores l) o] := by
  simp only [befores, List.foldl_append, List.foldl_cons, List.foldl_nil, row]

omit hC hpins hX in
theorem addTo_mem {l : List Nat} {i k : Nat} (h : k ∈ addTo l i) : k = i ∨ k ∈ l := by
  unfold addTo at h
  cases hm : mem i l with
  | true => rw [hm] at h; exact .inr h
  | false => rw [hm] at h; exact List.mem_cons.1 h
omit hC hpins hX in
theorem union_mem {k : Nat} : ∀ (a l : List Nat), k ∈ union a l → k ∈ a ∨ k ∈ l
  | [], _, h => .inr h
  | i :: a, l, h => by
    rcases union_mem a (addTo l i) h with h | h
    · exact .inl (List.mem_cons_of_mem _ h)
    · rcases addTo_mem h with h | h
      · exact .inl (by simp [h])
      · exact .inr h
omit hC hpins hX in
theorem row_mem {acc : List (List Nat)} {k : Nat} : ∀ (l : List Edge) (init : List Nat), k ∈ l.foldl (fun l e => bif Region.binds .any e then union (acc.getD e.on []) (addTo l e.on) else l) init →
    k ∈ init ∨ ∃ e ∈ l, Region.binds .any e = true ∧ (k = e.on ∨ k ∈ acc.getD e.on [])
  | [], init, h => .inl h
  | e :: l, init, h => by
    rw [List.foldl_cons] at h
    rcases row_mem l _ h with h1 | ⟨e', he', h2⟩
    · cases hb : Region.binds .any e with
      | false => rw [hb] at h1; exact .inl h1
      | true =>
        rw [hb, cond_true] at h1
        rcases union_mem _ _ h1 with h1 | h1
        · exact .inr ⟨e, by simp, hb, .inr h1⟩
        · rcases addTo_mem h1 with h1 | h1
          · exact .inr ⟨e, by simp, hb, .inl h1⟩
          · exact .inl h1
    · exact .inr ⟨e', by simp [he'], h2⟩

omit hC hpins hX in
theorem befores_get : ∀ (l m : List Oper) (i : Nat) (o : Oper), l[i]? = some o → (befores (l ++ m)).getD i [] = row (befores (l.take i)) o ∧ (∀ j, j < i → (befores (l.take i)).getD j [] = (befores (l ++ m)).getD j []) := by
  have hlen : ∀ l : List Oper, (befores l).length = l.length := by
    have gen : ∀ (l : List Oper) (acc : List (List Nat)), (l.foldl (fun acc o => acc ++ [row acc o]) acc).length = acc.length + l.length := by
      intro l
      induction l with
      | nil => intro acc; rfl
      | cons o l ih => intro acc; rw [List.foldl_cons, ih]; simp; omega
    intro l
    have := gen l []
    rw [List.length_nil, Nat.zero_add] at this
    exact this
  have hpre : ∀ (m l : List Oper), ∃ r, befores (l ++ m) = befores l ++ r := by
    intro m
    induction m with
    | nil => intro l; exact ⟨[], by simp⟩
    | cons o m ih =>
      intro l
      obtain ⟨r, hr⟩ := ih (l ++ [o])
      refine ⟨row (befores l) o :: r, ?_⟩
      rw [show l ++ o :: m = (l ++ [o]) ++ m by simp, hr, befores_snoc]; simp
  intro l m i o ho
  have hi : i < l.length := (List.getElem?_eq_some_iff.1 ho).1
  have hsplit : l ++ m = (l.take i ++ [o]) ++ (l.drop (i + 1) ++ m) := by
    have : l = l.take i ++ [o] ++ l.drop (i + 1) := by
      rw [List.append_assoc, List.singleton_append]
      have : o :: l.drop (i + 1) = l.drop i := by
        rw [List.drop_eq_getElem_cons hi]
        congr 1
        exact ((List.getElem?_eq_some_iff.1 ho).2).symm
      rw [this, List.take_append_drop]
    rw [← List.append_assoc, ← this]
  obtain ⟨r, hr⟩ := hpre (l.drop (i + 1) ++ m) (l.take i ++ [o])
  rw [hsplit, hr, befores_snoc]
  have hl : (befores (l.take i)).length = i := by rw [hlen, List.length_take]; omega
  refine ⟨?_, fun j hj => ?_⟩
  · rw [List.getD_eq_getElem?_getD, List.append_assoc, List.getElem?_append_right (by omega), hl, Nat.sub_self]; rfl
  · rw [List.getD_eq_getElem?_getD, List.getD_eq_getElem?_getD, List.append_assoc, List.getElem?_append_left (by omega)]

omit hC hpins hX in
/-- What an operation is behind has been done, if all that has been done was ready then. -/
theorem befores_done {ops : Array Oper} (ha : aheadAll ops = true) {D : Nat → Prop} (hD : ∀ i o, D i → ops[i]? = some o → ∀ e ∈ o.after, Region.binds .any e = true → D e.on) :
    ∀ (i : Nat) (o : Oper), ops[i]? = some o → (∀ e ∈ o.after, Region.binds .any e = true → D e.on) → ∀ k ∈ (befores ops.toList).getD i [], D k := by
  intro i
  induction i using Nat.strongRecOn with
  | _ i ih =>
    intro o ho hpred k hk
    have ho' : ops.toList[i]? = some o := by simpa using ho
    obtain ⟨h1, h2⟩ := befores_get ops.toList [] i o ho'
    rw [List.append_nil] at h1 h2
    rw [h1] at hk
    rcases row_mem _ _ hk with hk | ⟨e, he, hb, hk⟩
    · cases hk
    · have he' : e ∈ o.after := by simpa using he
      have hDe := hpred e he' hb
      rcases hk with rfl | hk
      · exact hDe
      · have hlt : e.on < i := by
          unfold aheadAll at ha
          rw [List.all_eq_true] at ha
          have hi : i < ops.toList.length := (List.getElem?_eq_some_iff.1 ho').1
          have h3 := ha i (List.mem_range.2 hi)
          have h4 : ops.toList.getD i default = o := by rw [List.getD_eq_getElem?_getD, ho']; rfl
          rw [h4, List.all_eq_true] at h3
          have h5 := h3 e he
          rw [hb] at h5
          simpa using h5
        rw [h2 e.on hlt] at hk
        obtain ⟨oe, hoe⟩ : ∃ oe, ops[e.on]? = some oe := by
          have hi : i < ops.size := (Array.getElem?_eq_some_iff.1 ho).1
          exact ⟨_, Array.getElem?_eq_getElem (by omega)⟩
        exact ih e.on hlt oe hoe (hD e.on oe hDe hoe) k hk

/-- The region, in whatever order. -/
theorem runs_any {ops : Array Oper} {E : Nat → Eff} {Q : Exit → Act → World → Prop} (ha : aheadAll ops = true)
    (hcalm : ∀ i j oi oj, i < j → ops[i]? = some oi → ops[j]? = some oj → i ∈ (befores ops.toList).getD j [] ∨ calm ops oi oj (fpOf (E i)) (fpOf (E j)) = true) :
    ∀ (fuel : Nat) (listed : Array Bool) (R : List Nat) {g : Gs} {s sf : St} {a : Act} {w : World}, R.length = fuel → R.Pairwise (· < ·) → (∀ i, i ∈ R ↔ (i < ops.size ∧ listed.getD i true = false)) → listed.size = ops.size →
      (∀ i o, i < ops.size → listed.getD i true = true → ops[i]? = some o → ∀ e ∈ o.after, Region.binds .any e = true → listed.getD e.on false = true) →
      IX P C.ntmps F X g s a w → Runs C ops E R s sf → (∀ g' a' w', IX P C.ntmps F X g' sf a' w' → Q .normal a' w') → wpAnyIn (wr F.rd) 0 P .any ops Q fuel listed a w
  | 0, listed, R, g, s, sf, a, w, hlen, _, hR, _, _, hinv, hruns, hQ => by
    obtain rfl := List.eq_nil_of_length_eq_zero hlen
    refine ⟨?_, hQ _ _ _ ⟨hinv.1.eqv hruns, hinv.2⟩⟩
    cases hr : Region.ready .any ops listed with
    | nil => rfl
    | cons x xs =>
      exfalso
      have hx : x ∈ Region.ready .any ops listed := by rw [hr]; simp
      rw [mem_ready] at hx
      obtain ⟨h1, o, ho, _⟩ := hx
      have := (hR x).2 ⟨(Array.getElem?_eq_some_iff.1 ho).1, h1⟩
      cases this
  | fuel + 1, listed, R, g, s, sf, a, w, hlen, hsort, hR, hsz, hclosed, hinv, hruns, hQ => by
    refine ⟨fun hnil => ?_, fun i hi => ?_⟩
    · exfalso
      cases R with
      | nil => simp at hlen
      | cons x R =>
        obtain ⟨hx1, hx2⟩ := (hR x).1 (by simp)
        have hox : ops[x]? = some ops[x] := Array.getElem?_eq_getElem hx1
        have : x ∈ Region.ready .any ops listed := by
          rw [mem_ready]
          refine ⟨hx2, _, hox, fun e he hb => ?_⟩
          have hlt : e.on < x := by
            have ha' := ha
            unfold aheadAll at ha'
            rw [List.all_eq_true] at ha'
            have h3 := ha' x (List.mem_range.2 (by simpa using hx1))
            have h4 : ops.toList.getD x default = ops[x] := by rw [List.getD_eq_getElem?_getD, Array.getElem?_toList, hox]; rfl
            rw [h4, List.all_eq_true] at h3
            have h5 := h3 e (by simpa using he)
            rw [hb] at h5
            simpa using h5
          cases hle : listed.getD e.on true with
          | true =>
            have : e.on < listed.size := by omega
            rw [Array.getD_eq_getD_getElem?, Array.getElem?_eq_getElem this] at hle ⊢
            exact hle
          | false =>
            have hmem := (hR e.on).2 ⟨by omega, hle⟩
            rcases List.mem_cons.1 hmem with h6 | h6
            · omega
            · have := (List.pairwise_cons.1 hsort).1 e.on h6
              omega
        rw [hnil] at this
        cases this
    · rw [mem_ready] at hi
      obtain ⟨hi1, o, ho, hpred⟩ := hi
      have hisz : i < ops.size := (Array.getElem?_eq_some_iff.1 ho).1
      have hiR := (hR i).2 ⟨hisz, hi1⟩
      obtain ⟨A, B, rfl⟩ := List.append_of_mem hiR
      have hbef := befores_done ha (D := fun k => listed.getD k false = true) (fun j oj hj hoj e he hb => by
        have hjs : j < ops.size := (Array.getElem?_eq_some_iff.1 hoj).1
        refine hclosed j oj hjs ?_ hoj e he hb
        have : j < listed.size := by omega
        rw [Array.getD_eq_getD_getElem?, Array.getElem?_eq_getElem this] at hj ⊢
        exact hj) i o ho hpred
      have hA : ∀ k ∈ A, ∀ ok, ops[k]? = some ok → calm ops ok o (fpOf (E k)) (fpOf (E i)) = true := by
        intro k hk ok hok
        have hkR := (hR k).1 (by simp [hk])
        have hlt : k < i := (List.pairwise_append.1 hsort).2.2 k hk i (by simp)
        rcases hcalm k i ok o hlt hok ho with h1 | h1
        · have h2 := hbef k h1
          have : k < listed.size := by omega
          have h3 := hkR.2
          rw [Array.getD_eq_getD_getElem?, Array.getElem?_eq_getElem this] at h2 h3
          simp only [Option.getD_some] at h2 h3
          rw [h2] at h3; cases h3
        · exact h1
      obtain ⟨hact, hrest⟩ := hruns.front ho hA
      refine act1_wp hC hpins hX ho hinv hact fun g' a' w' hinv' => ?_
      refine runs_any ha hcalm fuel (listed.setIfInBounds i true) (A ++ B) (by simp at hlen ⊢; omega) ?_ (fun k => ?_) (by simpa using hsz) ?_ hinv' hrest hQ
      · have hp := List.pairwise_append.1 hsort
        refine List.pairwise_append.2 ⟨hp.1, (List.pairwise_cons.1 hp.2.1).2, fun x hx y hy => hp.2.2 x hx y (by simp [hy])⟩
      · have hp := List.pairwise_append.1 hsort
        by_cases hki : k = i
        · subst hki
          have hl : (listed.setIfInBounds k true).getD k true = true := by
            rw [Array.getD_eq_getD_getElem?, Array.getElem?_setIfInBounds_self_of_lt (by omega)]; rfl
          constructor
          · intro hk
            exfalso
            rcases List.mem_append.1 hk with hk | hk
            · have := hp.2.2 k hk k (by simp)
              omega
            · have := (List.pairwise_cons.1 hp.2.1).1 k hk
              omega
          · rintro ⟨_, h⟩
            rw [hl] at h; cases h
        · rw [getD_set_ne true (Ne.symm hki)]
          have := hR k
          constructor
          · intro hk
            exact this.1 (by simp at hk ⊢; rcases hk with hk | hk <;> simp [hk])
          · intro hk
            have := this.2 hk
            simp at this ⊢
            rcases this with h | h | h
            · exact .inl h
            · exact absurd h hki
            · exact .inr h
      · intro j oj hjs hj hoj e he hb
        by_cases hji : j = i
        · subst hji
          rw [ho] at hoj
          cases hoj
          exact getD_set_true (hpred e he hb)
        · rw [getD_set_ne true (Ne.symm hji)] at hj
          exact getD_set_true (hclosed j oj hjs hj hoj e he hb)
end
end Go.Vi
