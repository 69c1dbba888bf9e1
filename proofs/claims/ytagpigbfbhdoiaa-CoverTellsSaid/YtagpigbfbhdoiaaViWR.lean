/- What a loop over a function needs. -/
import Derived.Test.YtagpigbfbhdoiaaViW
import Derived.LoopNIn
import Derived.Scope
namespace Go.Vi
open Go.RowKit (Below)

section
variable {P : Program} {b : Frame} {a : Act} {k : List Item} {cs : List Frame} {w : World}
theorem stepR_scope {c : Code} : Go.step P (lone (b.atR a (.code (.scope c) :: k)) cs w) = .next (lone (b.atR a (.code c :: .inScope c :: k)) cs w) :=
  step_lone_go (by simp [stepG, stepG.exec, Frame.atR])
theorem stepR_inScope {c : Code} : Go.step P (lone (b.atR a (.inScope c :: k)) cs w) = .next (lone (b.atR a k) cs w) :=
  step_lone_go (by simp [stepG, stepG.exec, Frame.atR])
end

theorem wpIn_scope {F : Fence} {n : Nat} {P : Program} {c : Code} {Q : Exit → Act → World → Prop} {a : Act} {w : World} (h : c.wpIn F n P (Exit.noGoto Q) a w) : (Code.scope c).wpIn F n P Q a w := by
  intro b k cs hro hb hr
  have h0 : (lone (b.atR a (.code (.scope c) :: k)) cs w).fenced P F := fenced_calm (fr := b.atR a (.code (.scope c) :: k)) hb hr rfl
  obtain ⟨e, a₁, w₁, hq, harr⟩ := h b (.inScope c :: k) cs hro hb hr
  have h1 : (lone (b.atR a₁ (.inScope c :: k)) cs w₁).fenced P F := fenced_calm (fr := b.atR a₁ (.inScope c :: k)) hb hr rfl
  cases e with
  | normal => exact ⟨.normal, a₁, w₁, hq, .head h0 stepR_scope (StepsIn.trans harr (.one h1 stepR_inScope))⟩
  | exit id =>
    have hx : exitTo id (.inScope c :: k) = exitTo id k := by simp [exitTo]
    exact ⟨.exit id, a₁, w₁, hq, fun k' hk => .head h0 stepR_scope (harr.1 k' (by rw [hx]; exact hk)),
      fun hr' hk => let ⟨k₁, h1, h2⟩ := harr.2 hr' (by rw [hx]; exact hk); ⟨k₁, h1, .head h0 stepR_scope h2⟩⟩
  | goto l => exact hq.elim
  | ret => exact ⟨_, a₁, w₁, hq, .of_steps (.one h0 stepR_scope) harr⟩
  | panic ch => exact ⟨_, a₁, w₁, hq, .of_steps (.one h0 stepR_scope) harr⟩
  | outgrown => exact ⟨_, a₁, w₁, hq, .of_steps (.one h0 stepR_scope) harr⟩

/-! ### levels -/
def Own.lev : Own → Nat
  | .stays => 0
  | .mine j => j
  | .room j _ => j
theorem Own.upto_lev {o : Own} {t : Nat} (h : o.lev ≤ t) : o.upto t := by
  cases o with
  | stays => trivial
  | mine j => exact h
  | room j hi => exact h
theorem Lv.exists (G : Gh) (w : World) (t : Nat) : ∃ t', t ≤ t' ∧ Lv t' G w := by
  have key : ∀ n : Nat, ∃ t', t ≤ t' ∧ ∀ b, b < n → (G b).upto t' := by
    intro n
    induction n with
    | zero => exact ⟨t, Nat.le_refl _, fun b hb => (by omega)⟩
    | succ n ih =>
      obtain ⟨t', h1, h2⟩ := ih
      refine ⟨max t' (G n).lev, by omega, fun b hb => ?_⟩
      by_cases e : b = n
      · subst e; exact Own.upto_lev (by omega)
      · exact Own.upto_mono (by omega) (h2 b (by omega))
  exact key _

def Own.low (t : Nat) : Own → Own
  | .stays => .stays
  | .mine j => if j ≤ t then .mine j else .stays
  | .room j hi => if j ≤ t then .room j hi else .stays
theorem Own.low_upto (t : Nat) : ∀ o : Own, (o.low t).upto t
  | .stays => trivial
  | .mine j => by
    by_cases h : j ≤ t
    · rw [show Own.low t (.mine j) = .mine j from if_pos h]; exact h
    · rw [show Own.low t (.mine j) = .stays from if_neg h]; trivial
  | .room j hi => by
    by_cases h : j ≤ t
    · rw [show Own.low t (.room j hi) = .room j hi from if_pos h]; exact h
    · rw [show Own.low t (.room j hi) = .stays from if_neg h]; trivial
theorem Own.low_of {t : Nat} : ∀ {o : Own}, o.upto t → o.low t = o
  | .stays, _ => rfl
  | .mine j, h => by unfold Own.low; exact if_pos h
  | .room j hi, h => by unfold Own.low; exact if_pos h
def Gh.low (t : Nat) (G : Gh) : Gh := fun b => (G b).low t
theorem Gh.low_kp (t : Nat) (G : Gh) (w : World) : Kp (Own.upto t) G w (G.low t) w := by
  refine ⟨rfl, rfl, rfl, Nat.le_refl _, fun b hb hp => ⟨rfl, Own.low_of hp⟩, ⟨fun b o v hc hs => ⟨hc, ?_⟩⟩⟩
  unfold Gh.st Gh.low at *
  cases hg : G b with
  | stays => trivial
  | mine j => rw [hg] at hs; exact hs.elim
  | room j hi =>
    rw [hg] at hs
    by_cases h : j ≤ t
    · rw [show Own.low t (.room j hi) = .room j hi from if_pos h]; exact hs
    · rw [show Own.low t (.room j hi) = .stays from if_neg h]; trivial

theorem Inv.raise {P : Program} {N : Nat} {F : Fr} {t t' : Nat} {g : Gs} {s : St} {a : Act} {w : World} (h : Inv P N { F with t := t } g s a w) (ht : t ≤ t') : Inv P N { F with t := t' } g s a w :=
  ⟨h.slots, h.size, h.defers, ⟨h.heap.box, h.heap.tok, h.heap.apart, h.heap.rooms⟩, h.stp, h.lv.mono ht, Nat.le_trans h.mt ht, h.hB, h.objs, h.pin, h.yl, h.hp, h.hrd, h.lv0.mono ht⟩
theorem Inv.lower {P : Program} {N : Nat} {F : Fr} {t : Nat} {g : Gs} {s : St} {a : Act} {w : World} (h : Inv P N { F with t := t } g s a w) (hm : F.m ≤ F.t) (h0 : Lv F.t F.G F.w) : Inv P N F ⟨g.G.low F.t, g.ι, g.ov, g.yl⟩ s a w := by
  have h1 := Inv.kp h (Gh.low_kp F.t g.G w) trivial hm (fun _ => hm) (fun b hb _ => h0 b hb) (fun b hb => by
    have := h.lv b hb
    show ((g.G b).low F.t).upto t
    cases hg : g.G b with
    | stays => trivial
    | mine j =>
      rw [hg] at this
      by_cases h : j ≤ F.t
      · rw [show Own.low F.t (.mine j) = .mine j from if_pos h]; exact this
      · rw [show Own.low F.t (.mine j) = .stays from if_neg h]; trivial
    | room j hi =>
      rw [hg] at this
      by_cases h : j ≤ F.t
      · rw [show Own.low F.t (.room j hi) = .room j hi from if_pos h]; exact this
      · rw [show Own.low F.t (.room j hi) = .stays from if_neg h]; trivial)
  exact ⟨h1.slots, h1.size, h1.defers, ⟨h1.heap.box, h1.heap.tok, h1.heap.apart, h1.heap.rooms⟩, h1.stp, fun b hb => Own.low_upto _ _, hm, h1.hB, h1.objs, h1.pin, h1.yl, h1.hp, h1.hrd, h0⟩

/-! ### the record of a loop -/
theorem row_of_cell {w : World} {b o : Nat} {v : Value} (h : Cell w b o = some v) : ∃ ob : Obj, w.heap[b]? = some ob ∧ isRow ob = true := by
  obtain ⟨ob, h1, h2⟩ := cells_of_cell (W := w) (a := ⟨b, o, none⟩) h
  exact ⟨ob, h1, by cases ob <;> simp_all [Obj.isCells, isRow]⟩
theorem Kp.putObj {p : Own → Prop} {G : Gh} {w : World} {l : Nat} {o o' : Obj} (hl : w.heap[l]? = some o) (ho : isRow o = false) (hp : ¬ p (G l)) : Kp p G w G (w.putObj l o') := by
  refine ⟨rfl, rfl, rfl, by simp, fun b hb hpb => ⟨World.putObj_heap_other (fun e => hp (e ▸ hpb)), rfl⟩, ⟨fun b oo v hc hs => ⟨?_, hs⟩⟩⟩
  have hne : b ≠ l := by
    intro e
    obtain ⟨ob, h1, h2⟩ := row_of_cell hc
    rw [e, hl] at h1
    cases h1
    rw [ho] at h2; cases h2
  rw [Cell.of_block (World.putObj_heap_other hne)]; exact hc

/-- Only what is no row of cells has changed. -/
theorem HeapRel.rows {P : Program} {H : Heap} {g : Gs} {w w' : World} {F : Fr} (h : HeapRel P H g w F) (hr : ∀ (b : Nat) (cs : Array Value) (et : TypeId) (fz : Nat × Nat), w.heap[b]? = some (.cells cs et fz) → w'.heap[b]? = some (.cells cs et fz)) (ha : Adv g.G w g.G w') : HeapRel P H g w' F := by
  refine ⟨fun id n fz c hl => ?_, fun T n hl => ?_, h.apart, h.rooms⟩
  · obtain ⟨cs, et, h1, h2, h3⟩ := h.box id n fz c hl
    exact ⟨cs, et, hr _ _ _ _ h1, h2.ext (Ext.refl _ _) ha, h3⟩
  · obtain ⟨ao, m, c, h1, h2, h3⟩ := h.tok T n hl
    refine ⟨ao, m, c, h1, h2, ?_⟩
    rcases h3 with h3 | ⟨b, cur, et, h4, h5, h6, h7, h8⟩
    · exact .inl h3
    · exact .inr ⟨b, cur, et, h4, h5, h6, hr _ _ _ _ h7, h8⟩

/-- An object of the frame's, beside the rows, is turned. -/
theorem Inv.putObj {P : Program} {N : Nat} {F : Fr} {g : Gs} {s : St} {a : Act} {w : World} {l : Nat} {o o' : Obj} {O O' : List (Nat × Obj)} {ds : List Deferred} (h : Inv P N F g s a w) (hl : w.heap[l]? = some o) (ho : isRow o = false) (hlm : g.G l = .mine F.m)
    (hd : Marks F.m ds g.G (w.putObj l o')) (hO : ∀ l' o'', (l', o'') ∈ O' → (w.putObj l o').heap[l']? = some o'' ∧ isRow o'' = false ∧ g.G l' = .mine F.m) (hrd : ∀ l, F.rd = some l → ∃ r, (l, Obj.loop r) ∈ O') :
    Inv P N { F with objs := O' } g s { a with defers := ds } (w.putObj l o') := by
  have hnp : ¬ F.p (g.G l) := fun hp => by rw [hlm] at hp; exact h.hp _ hp rfl
  have hk : Kp F.p g.G w g.G (w.putObj l o') := Kp.putObj hl ho hnp
  refine ⟨fun t => (h.slots t).ext (Ext.refl _ _) hk.adv, h.size, hd, ?_, h.stp.trans hk, fun b hb => h.lv b (by simpa using hb), h.mt, by simpa using h.hB, hO, h.pin, h.yl, h.hp, hrd, h.lv0⟩
  have := h.heap.rows (w' := w.putObj l o') (fun b cs et fz hb => by
    have hne : b ≠ l := by
      intro e
      rw [e, hl] at hb
      cases hb
      cases ho
    rw [World.putObj_heap_other hne]; exact hb) hk.adv
  exact ⟨this.box, this.tok, this.apart, this.rooms⟩

theorem Marks.lt {m : Nat} {ds : List Deferred} {G : Gh} {w : World} (h : Marks m ds G w) : ∃ O : List (Nat × Obj), (∀ p ∈ O, p.2 = .deferred (some [])) ∧ (∀ l o, (l, o) ∈ O → w.heap[l]? = some o ∧ isRow o = false ∧ G l = .mine m) ∧
    ∀ G' w', (∀ l o, (l, o) ∈ O → w'.heap[l]? = some o ∧ isRow o = false ∧ G' l = .mine m) → Marks m ds G' w' := by
  obtain ⟨Ds, h1, h2, h3⟩ := h
  refine ⟨Ds.map fun D => (D, .deferred (some [])), fun p hp => ?_, fun l o hl => ?_, fun G' w' hh => ⟨Ds, h1, h2, fun D hD => ?_⟩⟩
  · obtain ⟨D, _, rfl⟩ := List.mem_map.1 hp; rfl
  · obtain ⟨D, hD, e⟩ := List.mem_map.1 hl
    cases e
    obtain ⟨q1, q2⟩ := h3 _ hD
    exact ⟨q1, rfl, q2⟩
  · obtain ⟨q1, _, q2⟩ := hh D (.deferred (some [])) (List.mem_map.2 ⟨D, hD, rfl⟩)
    exact ⟨q1, q2⟩

/-- A loop over a function is entered. -/
theorem Inv.enter {P : Program} {N : Nat} {F : Fr} {g : Gs} {s : St} {a : Act} {w : World} (h : Inv P N F g s a w) (fn : FuncId) (ps : Array Tmp) (assign body : Code) :
    ∃ l mk d0 W1 G1, (Instr.enterLoop fn a.tmps ps assign body F.rd).run P w = .ok (l, mk) W1 ∧ W1.heap[l]? = some (.loop { state := .ready, pending := none, fn, tmps := a.tmps, params := ps, assign, body, defers := d0 }) ∧ G1 l = .mine F.m ∧
      w.heap.size ≤ l ∧ Fwd g.G w G1 W1 ∧ Inv P N F ⟨G1, g.ι, g.ov, g.yl⟩ s { a with defers := mk ++ a.defers } W1 := by
  have fin : ∀ (l : Nat) (mk : List Deferred) (W1 : World), Below w.heap.size w W1 → (∀ b, w.heap.size ≤ b → b < W1.heap.size → True) →
      (∀ (G1 : Gh), (∀ b, w.heap.size ≤ b → G1 b = .mine F.m) → (∀ b, b < w.heap.size → G1 b = g.G b) → Marks F.m a.defers G1 W1 → Marks F.m (mk ++ a.defers) G1 W1) → w.heap.size ≤ l →
      ∃ G1 : Gh, G1 l = .mine F.m ∧ w.heap.size ≤ l ∧ Fwd g.G w G1 W1 ∧ Inv P N F ⟨G1, g.ι, g.ov, g.yl⟩ s { a with defers := mk ++ a.defers } W1 := by
    intro l mk W1 hb _ hmk hl
    let G1 : Gh := fun b => if b < w.heap.size then g.G b else .mine F.m
    have e1 : ∀ b, b < w.heap.size → G1 b = g.G b := fun b hb => if_pos hb
    have e2 : ∀ b, w.heap.size ≤ b → G1 b = .mine F.m := fun b hb => if_neg (by omega)
    have hf : Fwd g.G w G1 W1 := ⟨hb, e1⟩
    obtain ⟨q1, q2⟩ := HeapRel.fwd h hf
    refine ⟨G1, e2 l hl, hl, hf, fun t => (h.slots t).ext q2 hf.adv, h.size, hmk G1 e2 e1 (h.defers.nc hf.nc), q1, h.stp.trans (hf.kp _), fun b hb => ?_, h.mt, Nat.le_trans h.hB hb.size, fun l o hl => ?_, h.pin, h.yl, h.hp, h.hrd, h.lv0⟩
    · by_cases e : b < w.heap.size
      · rw [show (⟨G1, g.ι, g.ov, g.yl⟩ : Gs).G b = g.G b from e1 b e]; exact h.lv b e
      · rw [show (⟨G1, g.ι, g.ov, g.yl⟩ : Gs).G b = .mine F.m from e2 b (by omega)]; exact h.mt
    · obtain ⟨p, q, r⟩ := h.objs l o hl
      obtain ⟨p', r'⟩ := hf.nc l _ p q
      exact ⟨p', q, r'.trans r⟩
  cases hrd : F.rd with
  | none =>
    have hb : Below w.heap.size w ((w.alloc (.deferred (some []))).alloc (.loop { state := .ready, pending := none, fn, tmps := a.tmps, params := ps, assign, body, defers := w.heap.size })) :=
      ((Below.refl _ w).alloc (Nat.le_refl _) _).alloc (by simp) _
    have hD : ((w.alloc (.deferred (some []))).alloc (.loop { state := .ready, pending := none, fn, tmps := a.tmps, params := ps, assign, body, defers := w.heap.size })).heap[w.heap.size]? = some (.deferred (some [])) :=
      (RowKit.Below.heap_alloc _ _ _ (by simp)).trans (World.alloc_heap_new w _)
    have hL : ((w.alloc (.deferred (some []))).alloc (.loop { state := .ready, pending := none, fn, tmps := a.tmps, params := ps, assign, body, defers := w.heap.size })).heap[w.heap.size + 1]? = some (.loop { state := .ready, pending := none, fn, tmps := a.tmps, params := ps, assign, body, defers := w.heap.size }) := by
      have := World.alloc_heap_new (w.alloc (.deferred (some []))) (.loop { state := .ready, pending := none, fn, tmps := a.tmps, params := ps, assign, body, defers := w.heap.size })
      rwa [World.size_alloc] at this
    obtain ⟨G1, h1, h2, h3, h4⟩ := fin (w.heap.size + 1) [mark w.heap.size] _ hb (fun _ _ _ => trivial) (fun G1 g1 g2 hm => by
      obtain ⟨Ds, m1, m2, m3⟩ := hm
      refine ⟨w.heap.size :: Ds, by simp [m1], List.nodup_cons.2 ⟨fun hmem => ?_, m2⟩, fun D hDm => ?_⟩
      · -- an elder mark lies ahead
        obtain ⟨Ds', n1, n2, n3⟩ := h.defers
        have : Ds = Ds' := by
          have e : Ds.map mark = Ds'.map mark := m1.symm.trans n1
          have inj : ∀ (l l' : List Nat), l.map mark = l'.map mark → l = l' := by
            intro l
            induction l with
            | nil => intro l' e; cases l' with
              | nil => rfl
              | cons _ _ => cases e
            | cons x l ih => intro l' e; cases l' with
              | nil => cases e
              | cons y l' =>
                simp only [List.map_cons, List.cons.injEq] at e
                have : x = y := by have := congrArg Deferred.target e.1; simpa [mark] using this
                rw [this, ih l' e.2]
          exact inj _ _ e
        subst this
        have := (Array.getElem?_eq_some_iff.1 (n3 _ hmem).1).1
        omega
      · rcases List.mem_cons.1 hDm with rfl | hDm
        · exact ⟨hD, g1 _ (Nat.le_refl _)⟩
        · exact m3 D hDm) (by omega)
    exact ⟨_, _, _, _, G1, run_enterLoop_outer fn a.tmps ps assign body, hL, h1, h2, h3, h4⟩
  | some l0 =>
    obtain ⟨r0, hr0⟩ := h.hrd l0 hrd
    have hl0 := (h.objs l0 _ hr0).1
    have hb : Below w.heap.size w (w.alloc (.loop { state := .ready, pending := none, fn, tmps := a.tmps, params := ps, assign, body, defers := r0.defers })) := (Below.refl _ w).alloc (Nat.le_refl _) _
    obtain ⟨G1, h1, h2, h3, h4⟩ := fin w.heap.size [] _ hb (fun _ _ _ => trivial) (fun G1 _ _ hm => hm) (Nat.le_refl _)
    exact ⟨_, _, _, _, G1, run_enterLoop_inner hl0 fn a.tmps ps assign body, World.alloc_heap_new w _, h1, h2, h3, h4⟩
end Go.Vi
