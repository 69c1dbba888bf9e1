/- Calls by contract; closures; parts of arrays. -/
import Derived.Test.YtpiboooclejjcaaViM
namespace Go.Vi
open Go.RowKit (Below)

section
variable (P : Program) (G : Gh) (w : World)
def ArgP : (p : PTy) → p.den → Value → Prop
  | .data τ, x, v => RepV G w τ x v
  | .cptr τ, x, v => CPtr G w τ x v
  | .fnp ps rs, f, v => FnRel P G w ps rs f v
def ArgsP : (ps : List PTy) → pdens ps → List Value → Prop
  | [], _, vs => vs = []
  | [p], x, vs => ∃ v, vs = [v] ∧ ArgP P G w p x v
  | p :: q :: ps, x, vs => ∃ v vs', vs = v :: vs' ∧ ArgP P G w p x.1 v ∧ ArgsP (q :: ps) x.2 vs'

/-- A slice that is the run's own, from a block on. -/
def Room (B : Nat) (e : Ty) (v : Value) : Prop :=
  ∃ ao m c, v = .slice ao m c ∧ m ≤ c ∧ (m = c ∨ ∃ b cur et, ao = some ⟨b, 0, none⟩ ∧ G b = .room (m * e.size) ∧ B ≤ b ∧ w.heap[b]? = some (.cells cur et (0, 0)) ∧ cur.size = c * e.size)

def ResP (B : Nat) : (r : RTy) → r.den → Value → Prop
  | .data τ, x, v => RepV G w τ x v
  | .fresh e, x, v => RepV G w (.slc e) x v ∧ Room G w B e v
def ResPs (B : Nat) : (rs : List RTy) → rdens rs → List Value → Prop
  | [], _, vs => vs = []
  | [r], x, vs => ∃ v, vs = [v] ∧ ResP G w B r x v
  | r :: q :: rs, x, vs => ∃ v vs', vs = v :: vs' ∧ ResP G w B r x.1 v ∧ ResPs B (q :: rs) x.2 vs'
end

/-- A function's contract. -/
def SoundE (P : Program) (f : FuncId) (en : Ent) : Prop := Callable P f ∧ ∀ G w (xs : pdens en.ps) vs, ArgsP P G w en.ps xs vs → ∀ r, en.g xs = some r →
  Calls P f vs.toArray w fun e w' => ∃ us G', e = .returned (tupVal us) ∧ Fwd G w G' w' ∧ ResPs G' w' w.heap.size en.rs r us
/-- A closure's contract. -/
def SoundC (P : Program) (f : FuncId) (cl : Cl) : Prop := Callable P f ∧ ∀ G w (xs : dens cl.ps) vs (cs : pdens cl.caps) ws, ArgsD G w cl.ps xs vs → ArgsP P G w cl.caps cs ws → ∀ r, cl.g xs cs = some r →
  Calls P f (vs.toArray ++ ws.toArray) w fun e w' => ∃ v G', e = .returned v ∧ Fwd G w G' w' ∧ ResD G' w' cl.rs r v

structure CtxOk (P : Program) (C : Ctx) : Prop where
  types : Types P C.tab
  fts : ftsOk P C.fts = true
  fns : ∀ f en, C.Γ f = some en → SoundE P f en
  cls : ∀ f cl, C.Γc f = some cl → SoundC P f cl
  mixed : P.follows .mixedOrders = true

theorem ArgP.adv {P : Program} {G G' : Gh} {w w' : World} (ha : Adv G w G' w') : ∀ {p : PTy} {x : p.den} {v : Value}, ArgP P G w p x v → ArgP P G' w' p x v
  | .data _, _, _, h => RepV.adv ha h
  | .cptr _, _, _, h => CPtr.adv ha h
  | .fnp _ _, _, _, h => FnRel.adv ha h
theorem ArgsP.adv {P : Program} {G G' : Gh} {w w' : World} (ha : Adv G w G' w') : ∀ (ps : List PTy) (x : pdens ps) (vs : List Value), ArgsP P G w ps x vs → ArgsP P G' w' ps x vs
  | [], _, _, h => h
  | [_], _, _, ⟨v, h1, h2⟩ => ⟨v, h1, h2.adv ha⟩
  | _ :: q :: ps, x, _, ⟨v, vs', h1, h2, h3⟩ => ⟨v, vs', h1, h2.adv ha, ArgsP.adv ha (q :: ps) x.2 vs' h3⟩

section
variable {P : Program} {H : Heap} {g : Gs} {w : World}

theorem SRel.asP {p : PTy} {u : S} {v : Value} {x : p.den} (h : SRel P H g w u v) (hx : asP p u = some x) : ArgP P g.G w p x v := by
  unfold Go.Vi.asP at hx
  split at hx
  · exact h.asD hx
  · cases castD_some hx
    exact h
  · cases hx
  · rename_i ps rs ps' rs' f
    split at hx
    · rename_i hh
      have h1 := asP.tysEq hh.1
      have h2 := asP.tysEq hh.2
      subst h1
      subst h2
      cases hx
      exact h
    · cases hx
  · cases hx

theorem asPs_rel : ∀ (ps : List PTy) (us : List S) (vs : List Value) (x : pdens ps), Each (SRel P H g w) us vs → asPs ps us = some x → ArgsP P g.G w ps x vs
  | [], [], [], _, _, _ => rfl
  | [p], [u], [v], x, h, hx => ⟨v, rfl, h.1.asP hx⟩
  | p :: q :: ps, u :: us, v :: vs, x, h, hx => by
    simp only [asPs] at hx
    rw [Option.bind_eq_some_iff] at hx
    obtain ⟨y, hy, hx⟩ := hx
    rw [Option.map_eq_some_iff] at hx
    obtain ⟨z, hz, rfl⟩ := hx
    exact ⟨v, vs, rfl, h.1.asP hy, asPs_rel (q :: ps) us vs z h.2 hz⟩
  | [], _ :: _, _, _, _, hx => by simp [asPs] at hx
  | [_], [], _, _, _, hx => by simp [asPs] at hx
  | [_], _ :: _ :: _, _, _, _, hx => by simp [asPs] at hx
  | _ :: _ :: _, [], _, _, _, hx => by simp [asPs] at hx
  | [], [], _ :: _, _, h, _ => h.elim
  | [_], [_], [], _, h, _ => h.elim
  | [_], [_], _ :: _ :: _, _, h, _ => h.2.elim
  | _ :: _ :: _, _ :: _, [], _, h, _ => h.elim

theorem asDs_rel : ∀ (ps : List Ty) (us : List S) (vs : List Value) (x : dens ps), Each (SRel P H g w) us vs → asDs ps us = some x → ArgsD g.G w ps x vs
  | [], [], [], _, _, _ => rfl
  | [p], [u], [v], x, h, hx => ⟨v, rfl, h.1.asD hx⟩
  | p :: q :: ps, u :: us, v :: vs, x, h, hx => by
    simp only [asDs] at hx
    rw [Option.bind_eq_some_iff] at hx
    obtain ⟨y, hy, hx⟩ := hx
    rw [Option.map_eq_some_iff] at hx
    obtain ⟨z, hz, rfl⟩ := hx
    exact ⟨v, vs, rfl, h.1.asD hy, asDs_rel (q :: ps) us vs z h.2 hz⟩
  | [], _ :: _, _, _, _, hx => by simp [asDs] at hx
  | [_], [], _, _, _, hx => by simp [asDs] at hx
  | [_], _ :: _ :: _, _, _, _, hx => by simp [asDs] at hx
  | _ :: _ :: _, [], _, _, _, hx => by simp [asDs] at hx
  | [], [], _ :: _, _, h, _ => h.elim
  | [_], [_], [], _, h, _ => h.elim
  | [_], [_], _ :: _ :: _, _, h, _ => h.2.elim
  | _ :: _ :: _, _ :: _, [], _, h, _ => h.elim

/-- A closure, made. -/
theorem fn_of_cl {f : FuncId} {cl : Cl} (hs : SoundC P f cl) {cs : pdens cl.caps} {ws : List Value} (hc : ArgsP P g.G w cl.caps cs ws) : FnRel P g.G w cl.ps cl.rs (fun xs => cl.g xs cs) (.func (.func f) #[] ws.toArray) :=
  ⟨f, ws.toArray, rfl, hs.1, fun _ _ ha xs vs hxs r hr => hs.2 _ _ xs vs cs ws hxs (hc.adv ha) r hr⟩

theorem asFn_rel {C : Ctx} (hC : CtxOk P C) {u : S} {v : Value} (h : SRel P H g w u v) : SRel P H g w (asFn C u) v := by
  unfold asFn
  split
  · rename_i f
    split
    · rename_i cl hcl
      split
      · rename_i cs hcs
        have hv : v = .func (.func f) #[] #[] := h
        subst hv
        exact SRel.of0 (fn_of_cl (hC.cls f cl hcl) (ws := []) (asPs_rel (H := H) cl.caps [] [] cs trivial hcs))
      · exact SRel.of0 (s := .poison) trivial
    · exact SRel.of0 (s := .poison) trivial
  · exact h

end

section
variable {P : Program} {C : Ctx} (hC : CtxOk P C) {N : Nat} {G0 : Gh} {w0 : World} {g : Gs} {s : St} {a : Act} {w : World} (hinv : Inv P N G0 w0 g s a w) {o : Oper} (hd : dstLt N o.dst)
include hinv

theorem evs (l : List Operand) : Each (SRel P s.heap g w) (l.map s.ev) (l.map a.eval) := by
  induction l with
  | nil => trivial
  | cons x l ih => exact ⟨hinv.ev x, ih⟩

include hd hC
theorem shown_makeFunc {f : Fn} {first caps : Array Operand} (hop : o.op = .makeFunc f first caps) {e : Eff} (he : (makeFuncS C s f (first.toList.map s.ev) (caps.toList.map s.ev)).is e) : Shown P N G0 w0 s a w o e := by
  unfold makeFuncS at he
  split at he
  · rename_i f' hfirst
    have hf : first = #[] := by
      apply Array.eq_empty_of_size_eq_zero
      have := congrArg List.length hfirst
      simpa using this
    split at he
    · rename_i cl hcl
      split at he
      · rename_i vs hw rd hfr
        split at he
        · rename_i cs hcs
          obtain ⟨_, rfl⟩ := he
          obtain ⟨g', i1, i2, i3, i4, i5, i6, i7, i8⟩ := freeze_inv hinv _ _ _ _ _ hfr (evs hinv caps.toList)
          have hval : SRel P (hw ++ s.heap) g' w (.fn cl.ps cl.rs (fun xs => cl.g xs cs)) (.func (.func f') #[] (caps.toList.map a.eval).toArray) :=
            SRel.of0 (fn_of_cl (hC.cls f' cl hcl) (asPs_rel _ _ _ cs i8 hcs))
          have hrun : (execOp a.eval o).run P w = .ok (.value (.func (.func f') #[] (caps.toList.map a.eval).toArray)) w := by
            unfold execOp
            rw [hop]
            subst hf
            simp [Instr.makeFunc]
            apply Array.ext'; simp
          exact .value hrun ⟨g', hinv.app (e := { val := .fn cl.ps cl.rs (fun xs => cl.g xs cs), hw, rd }) hd i2 i3 hval i1 ⟨hinv.fwd.below, i6⟩⟩
        · exact he.elim
      · exact he.elim
    · exact he.elim
  · exact he.elim

omit hd hC in
/-- What a call leaves of the heap. -/
theorem HeapRel.fwd {G' : Gh} {w' : World} (hf : Fwd g.G w G' w') : HeapRel P s.heap ⟨G', g.ι, g.ov⟩ w' w0.heap.size ∧ Ext s.heap g s.heap ⟨G', g.ι, g.ov⟩ :=
  ⟨hinv.heap.mono (fun b hb => hf.below.block b hb) ⟨G', g.ι, g.ov⟩ (fun b hb => hf.own b hb) rfl rfl, fun _ m fz c h => ⟨m, fz, c, h, Nat.le_refl _, fun _ _ => rfl⟩, fun _ m h => ⟨m, h, Nat.le_refl _, fun _ => rfl⟩⟩

omit hd hC hinv in
theorem resP_dat {G' : Gh} {w' : World} {B : Nat} : ∀ {r : RTy} {x : r.den} {v : Value}, ResP G' w' B r x v → ∀ H (g' : Gs), g'.G = G' → ∀ T n, SRel0 P H g' w' (resS T n false r x) v
  | .data _, _, _, h, _, _, rfl, _, _ => h
  | .fresh _, _, _, h, _, _, rfl, _, _ => h.1

omit hd hC hinv in
theorem resList_dat {G' : Gh} {w' : World} {B : Nat} {H : Heap} {g' : Gs} (hg : g'.G = G') (T n : Nat) : ∀ (rs : List RTy) (x : rdens rs) (us : List Value), ResPs G' w' B rs x us → Each (SRel0 P H g' w') (resList T n false rs x) us
  | [], _, _, h => by subst h; trivial
  | [r], x, _, ⟨v, h1, h2⟩ => by subst h1; exact ⟨resP_dat h2 H g' hg T n, trivial⟩
  | r :: q :: rs, x, _, ⟨v, vs, h1, h2, h3⟩ => by
    subst h1
    refine ⟨resP_dat h2 H g' hg T n, ?_⟩
    exact resList_dat hg T n (q :: rs) x.2 vs h3

omit hd hC hinv in
theorem resVal_rel {H : Heap} {g' : Gs} {w' : World} {l : List S} {us : List Value} (h : Each (SRel0 P H g' w') l us) : SRel P H g' w' (resVal l) (tupVal us) := by
  match l, us, h with
  | [], [], h => exact ⟨[], rfl, trivial⟩
  | [u], [v], h => exact SRel.of0 h.1
  | u :: u' :: l, v :: v' :: vs, h => exact ⟨v :: v' :: vs, rfl, h⟩
  | [], _ :: _, h => exact h.elim
  | [_], [], h => exact h.elim
  | [_], _ :: _ :: _, h => exact h.2.elim
  | _ :: _ :: _, [], h => exact h.elim
  | _ :: _ :: _, [_], h => exact h.2.elim

omit hC in
/-- A call that only makes memory, without a right in its result. -/
theorem Inv.call {G' : Gh} {w' : World} (hf : Fwd g.G w G' w') {u : S} {v : Value} (hv : SRel P s.heap ⟨G', g.ι, g.ov⟩ w' u v) : Inv P N G0 w0 ⟨G', g.ι, g.ov⟩ (s.app o.dst { val := u }) (a.put o.dst v) w' := by
  obtain ⟨h1, h2⟩ := HeapRel.fwd hinv hf
  exact hinv.app (e := { val := u }) hd h2 hf.adv hv h1 (hinv.fwd.trans hf)
end
end Go.Vi
