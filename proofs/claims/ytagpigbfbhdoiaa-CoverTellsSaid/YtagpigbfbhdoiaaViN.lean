/- Calls by contract; closures; parts of arrays. -/
import Derived.Test.YtagpigbfbhdoiaaViM
namespace Go.Vi
open Go.RowKit (Below)

section
variable (P : Program) (G : Gh) (w : World)
def ArgP : (p : PTy) → p.den → Value → Prop
  | .data τ, x, v => RepV G w τ x v
  | .cptr τ, x, v => CPtr G w τ x v
  | .fnp ps rs, f, v => FnRel P G w ps rs f v
  | .seqp es, xs, v => SeqRel P G w es xs v
  | .nils _, _, v => v = .slice none 0 0
def ArgsP : (ps : List PTy) → pdens ps → List Value → Prop
  | [], _, vs => vs = []
  | [p], x, vs => ∃ v, vs = [v] ∧ ArgP P G w p x v
  | p :: q :: ps, x, vs => ∃ v vs', vs = v :: vs' ∧ ArgP P G w p x.1 v ∧ ArgsP (q :: ps) x.2 vs'

/-- A slice that is the run's own, from a block on. -/
def Room (m B : Nat) (e : Ty) (v : Value) : Prop :=
  ∃ ao k c, v = .slice ao k c ∧ k ≤ c ∧ (k = c ∨ ∃ b cur et, ao = some ⟨b, 0, none⟩ ∧ G b = .room m (k * e.size) ∧ B ≤ b ∧ w.heap[b]? = some (.cells cur et (0, 0)) ∧ cur.size = c * e.size)

def ResP (m B : Nat) : (r : RTy) → r.den → Value → Prop
  | .data τ, x, v => RepV G w τ x v
  | .fresh e, x, v => RepV G w (.slc e) x v ∧ Room G w m B e v
  | .seqr es, xs, v => SeqRel P G w es xs v
  | .fnr ps rs, f, v => FnRel P G w ps rs f v
def ResPs (m B : Nat) : (rs : List RTy) → rdens rs → List Value → Prop
  | [], _, vs => vs = []
  | [r], x, vs => ∃ v, vs = [v] ∧ ResP P G w m B r x v
  | r :: q :: rs, x, vs => ∃ v vs', vs = v :: vs' ∧ ResP P G w m B r x.1 v ∧ ResPs m B (q :: rs) x.2 vs'
end

/-- A function's contract. -/
def SoundE (P : Program) (f : FuncId) (en : Ent) : Prop := Callable P f ∧ ∀ m t G w, m ≤ t → Lv t G w → ∀ (xs : pdens en.ps) vs, ArgsP P G w en.ps xs vs → ∀ r, en.g xs = some r →
  Calls P f vs.toArray w fun e w' => ∃ us G', e = .returned (tupVal us) ∧ Fwd G w G' w' ∧ Lv t G' w' ∧ ResPs P G' w' m w.heap.size en.rs r us
/-- A closure's contract. -/
def SoundC (P : Program) (f : FuncId) (cl : Cl) : Prop := Callable P f ∧ ∀ t G w, Lv t G w → ∀ (xs : dens cl.ps) vs (cs : pdens cl.caps) ws, ArgsD G w cl.ps xs vs → ArgsP P G w cl.caps cs ws → ∀ r, cl.g xs cs = some r →
  Calls P f (vs.toArray ++ ws.toArray) w fun e w' => ∃ v G', e = .returned v ∧ Fwd G w G' w' ∧ Lv t G' w' ∧ ResD G' w' cl.rs r v

/-- An iterator's contract. -/
def SoundQ (P : Program) (f : FuncId) (sq : Sq) : Prop := Callable P f ∧ ∀ τ G w, Lv τ G w → ∀ (fs : pdens sq.firsts) vs (cs : pdens sq.caps) ws, ArgsP P G w sq.firsts fs vs → ArgsP P G w sq.caps cs ws →
  ∀ xs, sq.g fs cs = some xs → SeqRun P f vs.toArray ws.toArray sq.es xs τ G w

/-- A call that may have written one block. -/
structure FwdX (b : Nat) (G : Gh) (w : World) (G' : Gh) (w' : World) : Prop where
  os : w'.os = w.os
  tape : w'.tape = w.tape
  output : w'.output = w.output
  size : w.heap.size ≤ w'.heap.size
  same : ∀ k, k < w.heap.size → k ≠ b → w'.heap[k]? = w.heap[k]? ∧ G' k = G k
  adv : Adv G w G' w'
/-- The contract of a function that writes what its first argument points to. -/
def SoundM (P : Program) (f : FuncId) (em : Em) : Prop := Callable P f ∧ ∀ m t G w, m ≤ t → Lv t G w → ∀ b cs et y, w.heap[b]? = some (.cells cs et (0, 0)) → G b = .mine m → Rep G w em.τ y cs.toList → ∀ xs vs, ArgsP P G w em.ps xs vs →
  ∀ y' r, em.g y xs = some (y', r) → Calls P f (#[.pointer (some ⟨b, 0, none⟩)] ++ vs.toArray) w fun e w' => ∃ us G' cs' et', e = .returned (tupVal us) ∧ w'.heap[b]? = some (.cells cs' et' (0, 0)) ∧ G' b = .mine m ∧ Rep G' w' em.τ y' cs'.toList ∧
    FwdX b G w G' w' ∧ Lv t G' w' ∧ ResPs P G' w' m w.heap.size em.rs r us

structure CtxOk (P : Program) (C : Ctx) : Prop where
  types : Types P C.tab
  fts : ftsOk P C.fts = true
  pts : ptsOk P C.pts = true
  fns : ∀ f en, C.Γ f = some en → SoundE P f en
  cls : ∀ f cl, C.Γc f = some cl → SoundC P f cl
  sqs : ∀ f sq, C.Γs f = some sq → SoundQ P f sq
  ems : ∀ f em, C.Γm f = some em → SoundM P f em
  mixed : P.follows .mixedOrders = true

theorem ArgP.adv {P : Program} {G G' : Gh} {w w' : World} (ha : Adv G w G' w') : ∀ {p : PTy} {x : p.den} {v : Value}, ArgP P G w p x v → ArgP P G' w' p x v
  | .data _, _, _, h => RepV.adv ha h
  | .cptr _, _, _, h => CPtr.adv ha h
  | .fnp _ _, _, _, h => FnRel.adv ha h
  | .seqp _, _, _, h => SeqRel.adv ha h
  | .nils _, _, _, h => h
theorem ArgsP.adv {P : Program} {G G' : Gh} {w w' : World} (ha : Adv G w G' w') : ∀ (ps : List PTy) (x : pdens ps) (vs : List Value), ArgsP P G w ps x vs → ArgsP P G' w' ps x vs
  | [], _, _, h => h
  | [_], _, _, ⟨v, h1, h2⟩ => ⟨v, h1, h2.adv ha⟩
  | _ :: q :: ps, x, _, ⟨v, vs', h1, h2, h3⟩ => ⟨v, vs', h1, h2.adv ha, ArgsP.adv ha (q :: ps) x.2 vs' h3⟩

section
variable {P : Program} {H : Heap} {g : Gs} {w : World}

omit P H g w in
theorem castSeq_some {es es' : List Ty} {x : List (dens es)} {y : List (dens es')} (h : castSeq es es' x = some y) : (⟨es, x⟩ : (es : List Ty) × List (dens es)) = ⟨es', y⟩ := by
  unfold castSeq at h
  split at h
  · rename_i hb
    have hst := tysEq hb
    subst hst
    cases h; rfl
  · cases h

theorem SRel.asP {p : PTy} {u : S} {v : Value} {x : p.den} (h : SRel P H g w u v) (hx : asP p u = some x) : ArgP P g.G w p x v := by
  unfold Go.Vi.asP at hx
  split at hx
  · exact h.asD hx
  · cases castD_some hx
    exact h
  · cases hx
  · rename_i ps rs ps' rs' f
    split at hx
    · rename_i hh
      have h1 := tysEq hh.1
      have h2 := tysEq hh.2
      subst h1
      subst h2
      cases hx
      exact h
    · cases hx
  · cases hx
  · cases castSeq_some hx
    exact h
  · cases hx
  · exact h
  · cases hx

theorem asPs_rel : ∀ (ps : List PTy) (us : List S) (vs : List Value) (x : pdens ps), Each (SRel P H g w) us vs → asPs ps us = some x → ArgsP P g.G w ps x vs
  | [], [], [], _, _, _ => rfl
  | [p], [u], [v], x, h, hx => ⟨v, rfl, h.1.asP hx⟩
  | p :: q :: ps, u :: us, v :: vs, x, h, hx => by
    simp only [asPs] at hx
    rw [Option.bind_eq_some_iff] at hx
    obtain ⟨y, hy, hx⟩ := hx
    rw [Option.map_eq_some_iff] at hx
    obtain ⟨z, hz, rfl⟩ := hx
    exact ⟨v, vs, rfl, h.1.asP hy, asPs_rel (q :: ps) us vs z h.2 hz⟩
  | [], _ :: _, _, _, _, hx => by simp [asPs] at hx
  | [_], [], _, _, _, hx => by simp [asPs] at hx
  | [_], _ :: _ :: _, _, _, _, hx => by simp [asPs] at hx
  | _ :: _ :: _, [], _, _, _, hx => by simp [asPs] at hx
  | [], [], _ :: _, _, h, _ => h.elim
  | [_], [_], [], _, h, _ => h.elim
  | [_], [_], _ :: _ :: _, _, h, _ => h.2.elim
  | _ :: _ :: _, _ :: _, [], _, h, _ => h.elim

theorem asDs_rel : ∀ (ps : List Ty) (us : List S) (vs : List Value) (x : dens ps), Each (SRel P H g w) us vs → asDs ps us = some x → ArgsD g.G w ps x vs
  | [], [], [], _, _, _ => rfl
  | [p], [u], [v], x, h, hx => ⟨v, rfl, h.1.asD hx⟩
  | p :: q :: ps, u :: us, v :: vs, x, h, hx => by
    simp only [asDs] at hx
    rw [Option.bind_eq_some_iff] at hx
    obtain ⟨y, hy, hx⟩ := hx
    rw [Option.map_eq_some_iff] at hx
    obtain ⟨z, hz, rfl⟩ := hx
    exact ⟨v, vs, rfl, h.1.asD hy, asDs_rel (q :: ps) us vs z h.2 hz⟩
  | [], _ :: _, _, _, _, hx => by simp [asDs] at hx
  | [_], [], _, _, _, hx => by simp [asDs] at hx
  | [_], _ :: _ :: _, _, _, _, hx => by simp [asDs] at hx
  | _ :: _ :: _, [], _, _, _, hx => by simp [asDs] at hx
  | [], [], _ :: _, _, h, _ => h.elim
  | [_], [_], [], _, h, _ => h.elim
  | [_], [_], _ :: _ :: _, _, h, _ => h.2.elim
  | _ :: _ :: _, _ :: _, [], _, h, _ => h.elim

/-- A closure, made. -/
theorem fn_of_cl {f : FuncId} {cl : Cl} (hs : SoundC P f cl) {cs : pdens cl.caps} {ws : List Value} (hc : ArgsP P g.G w cl.caps cs ws) : FnRel P g.G w cl.ps cl.rs (fun xs => cl.g xs cs) (.func (.func f) #[] ws.toArray) :=
  ⟨f, ws.toArray, rfl, hs.1, fun t _ _ ha hl xs vs hxs r hr => hs.2 t _ _ hl xs vs cs ws hxs (hc.adv ha) r hr⟩

theorem seq_of_sq {f : FuncId} {sq : Sq} (hs : SoundQ P f sq) {fs : pdens sq.firsts} {vs : List Value} {cs : pdens sq.caps} {ws : List Value} (hf : ArgsP P g.G w sq.firsts fs vs) (hc : ArgsP P g.G w sq.caps cs ws) {xs : List (dens sq.es)} (hx : sq.g fs cs = some xs) :
    SeqRel P g.G w sq.es xs (.func (.func f) vs.toArray ws.toArray) :=
  ⟨f, vs.toArray, ws.toArray, rfl, hs.1, fun τ _ _ ha hl => hs.2 τ _ _ hl fs vs cs ws (hf.adv ha) (hc.adv ha) xs hx⟩

theorem asFn_rel {C : Ctx} (hC : CtxOk P C) {u : S} {v : Value} (h : SRel P H g w u v) : SRel P H g w (asFn C u) v := by
  unfold asFn
  split
  · rename_i f
    split
    · rename_i cl hcl
      split
      · rename_i cs hcs
        have hv : v = .func (.func f) #[] #[] := h
        subst hv
        exact SRel.of0 (fn_of_cl (hC.cls f cl hcl) (ws := []) (asPs_rel (H := H) cl.caps [] [] cs trivial hcs))
      · exact SRel.of0 (s := .poison) trivial
    · exact SRel.of0 (s := .poison) trivial
  · exact h

end

section
variable {P : Program} {C : Ctx} (hC : CtxOk P C) {N : Nat} {F : Fr} {g : Gs} {s : St} {a : Act} {w : World} (hinv : Inv P N F g s a w) {o : Oper} (hd : dstLt N F o.dst)
include hinv

theorem evs (l : List Operand) : Each (SRel P s.heap g w) (l.map s.ev) (l.map a.eval) := by
  induction l with
  | nil => trivial
  | cons x l ih => exact ⟨hinv.ev x, ih⟩

include hd hC
theorem shown_makeFunc {f : Fn} {first caps : Array Operand} (hop : o.op = .makeFunc f first caps) {e : Eff} (he : (makeFuncS C s f (first.toList.map s.ev) (caps.toList.map s.ev)).is e) : Shown P N F s a w o e := by
  have hrun : ∀ f', f = .func f' → (execOp a.eval o).run P w = .ok (.value (.func (.func f') (first.toList.map a.eval).toArray (caps.toList.map a.eval).toArray)) w := by
    intro f' hf
    unfold execOp
    rw [hop, hf]
    simp only [Instr.makeFunc, Sem.run_bind, Sem.run_pure, Result.andThen_ok]
    congr 3 <;> apply Array.ext' <;> simp
  unfold makeFuncS at he
  split at he
  · rename_i f'
    have hrun := hrun f' rfl
    split at he
    · rename_i cl hcl
      split at he
      · rename_i vs hw rd hfirst hfr
        have hf : first.toList = [] := by
          have := congrArg List.length hfirst
          exact List.eq_nil_of_length_eq_zero (by simpa using this)
        split at he
        · rename_i cs hcs
          obtain ⟨_, rfl⟩ := he
          obtain ⟨g', i1, i2, i3, i4, i5, i7, i8⟩ := freeze_inv hinv _ _ _ _ _ hfr (evs hinv caps.toList)
          have hval : SRel P (hw ++ s.heap) g' w (.fn cl.ps cl.rs (fun xs => cl.g xs cs)) (.func (.func f') #[] (caps.toList.map a.eval).toArray) :=
            SRel.of0 (fn_of_cl (hC.cls f' cl hcl) (asPs_rel _ _ _ cs i8 hcs))
          rw [hf] at hrun
          exact .value hrun ⟨g', hinv.app (e := { val := .fn cl.ps cl.rs (fun xs => cl.g xs cs), hw, rd }) hd i2 hval i1 i3⟩
        · exact he.elim
      · exact he.elim
    · split at he
      · rename_i sq vs hw rd hsq hfr
        split at he
        · rename_i fs cs hfs hcs
          obtain ⟨xs, hxs, rfl⟩ := he
          obtain ⟨g', i1, i2, i3, i4, i5, i7, i8⟩ := freeze_inv hinv _ _ _ _ _ hfr (evs hinv caps.toList)
          have hval : SRel P (hw ++ s.heap) g' w (.seq sq.es xs) (.func (.func f') (first.toList.map a.eval).toArray (caps.toList.map a.eval).toArray) :=
            SRel.of0 (seq_of_sq (hC.sqs f' sq hsq) ((asPs_rel _ _ _ fs (evs hinv first.toList) hfs).adv i3.kp.adv) (asPs_rel _ _ _ cs i8 hcs) hxs)
          exact .value hrun ⟨g', hinv.app (e := { val := .seq sq.es xs, hw, rd }) hd i2 hval i1 i3⟩
        · exact he.elim
      · exact he.elim
  · exact he.elim

omit hd hC in
/-- What a call leaves of the heap. -/
theorem HeapRel.fwd {G' : Gh} {w' : World} (hf : Fwd g.G w G' w') : HeapRel P s.heap ⟨G', g.ι, g.ov, g.yl⟩ w' F ∧ Ext s.heap g s.heap ⟨G', g.ι, g.ov, g.yl⟩ :=
  ⟨hinv.heap.mono (fun b hb => hf.below.block b hb) ⟨G', g.ι, g.ov, g.yl⟩ (fun b hb => hf.own b hb) rfl rfl rfl, fun _ m fz c h => ⟨m, fz, c, h, Nat.le_refl _, fun _ _ => rfl⟩, fun _ m h => ⟨m, h, Nat.le_refl _, fun _ => rfl⟩, rfl⟩

omit hd hC hinv in
theorem resP_dat {G' : Gh} {w' : World} {m B : Nat} : ∀ {r : RTy} {x : r.den} {v : Value}, ResP P G' w' m B r x v → ∀ H (g' : Gs), g'.G = G' → ∀ T n, SRel0 P H g' w' (resS T n false r x) v
  | .data _, _, _, h, _, _, rfl, _, _ => h
  | .fresh _, _, _, h, _, _, rfl, _, _ => h.1
  | .seqr _, _, _, h, _, _, rfl, _, _ => h
  | .fnr _ _, _, _, h, _, _, rfl, _, _ => h

omit hd hC hinv in
theorem resList_dat {G' : Gh} {w' : World} {m B : Nat} {H : Heap} {g' : Gs} (hg : g'.G = G') (T n : Nat) : ∀ (rs : List RTy) (x : rdens rs) (us : List Value), ResPs P G' w' m B rs x us → Each (SRel0 P H g' w') (resList T n false rs x) us
  | [], _, _, h => by subst h; trivial
  | [r], x, _, ⟨v, h1, h2⟩ => by subst h1; exact ⟨resP_dat h2 H g' hg T n, trivial⟩
  | r :: q :: rs, x, _, ⟨v, vs, h1, h2, h3⟩ => by
    subst h1
    refine ⟨resP_dat h2 H g' hg T n, ?_⟩
    exact resList_dat hg T n (q :: rs) x.2 vs h3

omit hd hC hinv in
theorem resVal_rel {H : Heap} {g' : Gs} {w' : World} {l : List S} {us : List Value} (h : Each (SRel0 P H g' w') l us) : SRel P H g' w' (resVal l) (tupVal us) := by
  match l, us, h with
  | [], [], h => exact ⟨[], rfl, trivial⟩
  | [u], [v], h => exact SRel.of0 h.1
  | u :: u' :: l, v :: v' :: vs, h => exact ⟨v :: v' :: vs, rfl, h⟩
  | [], _ :: _, h => exact h.elim
  | [_], [], h => exact h.elim
  | [_], _ :: _ :: _, h => exact h.2.elim
  | _ :: _ :: _, [], h => exact h.elim
  | _ :: _ :: _, [_], h => exact h.2.elim

omit hC in
/-- A call that only makes memory, without a right in its result. -/
theorem Inv.call {G' : Gh} {w' : World} (hf : Fwd g.G w G' w') (hl : Lv F.t G' w') {u : S} {v : Value} (hv : SRel P s.heap ⟨G', g.ι, g.ov, g.yl⟩ w' u v) : Inv P N F ⟨G', g.ι, g.ov, g.yl⟩ (s.app o.dst { val := u }) (a.put o.dst v) w' := by
  obtain ⟨h1, h2⟩ := HeapRel.fwd hinv hf
  exact hinv.app (e := { val := u }) hd h2 hv h1 (hf.stp fun _ => hl)
end
end Go.Vi
