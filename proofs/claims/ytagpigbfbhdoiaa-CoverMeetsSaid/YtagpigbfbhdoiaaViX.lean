/- Contracts of functions and closures out of what the interpreter computes. -/
import Derived.Test.YtagpigbfbhdoiaaViWG
namespace Go.Vi
open Go.RowKit (Below)

section
variable {P : Program} {G : Gh} {w : World}

theorem ofP_rel {H : Heap} {g : Gs} (hg : g.G = G) : ∀ {p : PTy} {x : p.den} {v : Value}, ArgP P G w p x v → SRel0 P H g w (argSlots.ofP p x) v
  | .data _, _, _, h => by subst hg; exact h
  | .cptr _, _, _, h => by subst hg; exact h
  | .fnp _ _, _, _, h => by subst hg; exact h
  | .seqp _, _, _, h => by subst hg; exact h
  | .nils _, _, _, h => h

theorem argsP_len : ∀ (ps : List PTy) (x : pdens ps) (vs : List Value), ArgsP P G w ps x vs → vs.length = ps.length
  | [], _, _, h => by subst h; rfl
  | [_], _, _, ⟨_, h, _⟩ => by subst h; rfl
  | _ :: q :: ps, x, _, ⟨_, vs', h, _, h2⟩ => by subst h; simp [argsP_len (q :: ps) x.2 vs' h2]
theorem argsD_len : ∀ (ps : List Ty) (x : dens ps) (vs : List Value), ArgsD G w ps x vs → vs.length = ps.length
  | [], _, _, h => by subst h; rfl
  | [_], _, _, ⟨_, h, _⟩ => by subst h; rfl
  | _ :: q :: ps, x, _, ⟨_, vs', h, _, h2⟩ => by subst h; simp [argsD_len (q :: ps) x.2 vs' h2]

theorem argSlots_rel {H : Heap} {g : Gs} (hg : g.G = G) : ∀ (ps : List PTy) (x : pdens ps) (vs : List Value), ArgsP P G w ps x vs → ∀ (i t : Nat) (u : S), lookO (argSlots ps x i) t = some u → ∃ v, i ≤ t ∧ vs[t - i]? = some v ∧ SRel0 P H g w u v
  | [], _, _, _, i, t, u, hl => by cases hl
  | [p], x, _, ⟨v, h1, h2⟩, i, t, u, hl => by
    subst h1
    simp only [argSlots] at hl
    rw [lookO_cons] at hl
    by_cases e : i = t
    · rw [if_pos e] at hl
      cases hl
      exact ⟨v, by omega, by simp [e], ofP_rel hg h2⟩
    · rw [if_neg e] at hl; cases hl
  | p :: q :: ps, x, _, ⟨v, vs', h1, h2, h3⟩, i, t, u, hl => by
    subst h1
    simp only [argSlots] at hl
    rw [lookO_cons] at hl
    by_cases e : i = t
    · rw [if_pos e] at hl
      cases hl
      exact ⟨v, by omega, by simp [e], ofP_rel hg h2⟩
    · rw [if_neg e] at hl
      obtain ⟨v', h4, h5, h6⟩ := argSlots_rel (H := H) hg (q :: ps) x.2 vs' h3 (i + 1) t u hl
      refine ⟨v', by omega, ?_, h6⟩
      rw [show t - i = (t - (i + 1)) + 1 by omega, List.getElem?_cons_succ]; exact h5

theorem datSlots_rel {H : Heap} {g : Gs} (hg : g.G = G) : ∀ (ps : List Ty) (x : dens ps) (vs : List Value), ArgsD G w ps x vs → ∀ (i t : Nat) (u : S), lookO (datSlots ps x i) t = some u → ∃ v, i ≤ t ∧ vs[t - i]? = some v ∧ SRel0 P H g w u v
  | [], _, _, _, i, t, u, hl => by cases hl
  | [p], x, _, ⟨v, h1, h2⟩, i, t, u, hl => by
    subst h1
    simp only [datSlots] at hl
    rw [lookO_cons] at hl
    by_cases e : i = t
    · rw [if_pos e] at hl
      cases hl
      exact ⟨v, by omega, by simp [e], by rw [← hg] at h2; exact h2⟩
    · rw [if_neg e] at hl; cases hl
  | p :: q :: ps, x, _, ⟨v, vs', h1, h2, h3⟩, i, t, u, hl => by
    subst h1
    simp only [datSlots] at hl
    rw [lookO_cons] at hl
    by_cases e : i = t
    · rw [if_pos e] at hl
      cases hl
      exact ⟨v, by omega, by simp [e], by rw [← hg] at h2; exact h2⟩
    · rw [if_neg e] at hl
      obtain ⟨v', h4, h5, h6⟩ := datSlots_rel (H := H) hg (q :: ps) x.2 vs' h3 (i + 1) t u hl
      refine ⟨v', by omega, ?_, h6⟩
      rw [show t - i = (t - (i + 1)) + 1 by omega, List.getElem?_cons_succ]; exact h5

/-- The begin of a call. -/
def tmps0 (N : Nat) (vs : List Value) : Array Value := vs.toArray ++ Array.replicate (N - vs.toArray.size) undef
def frame0 (N : Nat) (pins : List Nat) (vs : List Value) (k : Nat) (p : Own → Prop) (l : Nat) (G : Gh) (w : World) : Fr :=
  { m := k + 1, t := k + 1, B := w.heap.size, G, w, p, rd := none, objs := [], pins, pv := fun t => (tmps0 N vs).getD t undef, yl := l }
theorem Inv.start {slots : List (Nat × S)} {vs : List Value} {N : Nat} (hlen : vs.length ≤ N) {k l : Nat} {p : Own → Prop} (hlv : Lv k G w) (hp : ∀ o, p o → Own.offs (k + 1) o) (pins : List Nat)
    (hs : ∀ g : Gs, g.G = G → g.yl = l → ∀ t u, lookO slots t = some u → ∃ v, vs[t]? = some v ∧ SRel0 P [] g w u v) :
    ∃ g, g.G = G ∧ Inv P N (frame0 N pins vs k p l G w) g { slots := slots, heap := [] } { tmps := tmps0 N vs, defers := [] } w := by
  refine ⟨⟨G, fun _ _ => 0, fun _ => (undef, 0), l⟩, rfl, fun t => ?_, by simp [tmps0]; omega, Marks.nil _ _ _, ⟨fun id n fz c hl => (by cases hl), fun T n hl => (by cases hl), fun id n fz c id' n' fz' c' hl => (by cases hl), fun T n T' n' hl => (by cases hl)⟩, Kp.refl _ _ _,
    hlv.mono (Nat.le_succ _), Nat.le_refl _, Nat.le_refl _, fun l o h => (by cases h), fun t _ => rfl, rfl, hp, fun l h => (by cases h), hlv.mono (Nat.le_succ _)⟩
  rw [look_lookO]
  cases hl : lookO slots t with
  | none => exact SRel.of0 (s := .poison) trivial
  | some u =>
    obtain ⟨v, h1, h2⟩ := hs ⟨G, fun _ _ => 0, fun _ => (undef, 0), l⟩ rfl rfl t u hl
    have ht : t < vs.length := (List.getElem?_eq_some_iff.1 h1).1
    have : (tmps0 N vs).getD t undef = v := by
      unfold tmps0
      rw [Array.getD_eq_getD_getElem?, Array.getElem?_append_left (by simpa using ht)]
      simp [h1]
    simp only [Option.getD_some]
    rw [this]
    exact SRel.of0 h2

/-- One result. -/
def resOne (tmps : Array Value) : ResultVar → Sem Value
  | .tmp t => pure (tmps.getD t undef)
  | .cell a t => do loadVar t (← asAddr (tmps.getD a undef))

theorem resSlot_rel {C : Ctx} (T : Types P C.tab) {N : Nat} {F : Fr} {g : Gs} {s : St} {a : Act} (hinv : Inv P N F g s a w) (rv : ResultVar) (hp : resSlot C s rv ≠ .poison) :
    ∃ v, (resOne a.tmps rv).run P w = .ok v w ∧ SRel P s.heap g w (resSlot C s rv) v := by
  cases rv with
  | tmp t => exact ⟨_, rfl, hinv.slots t⟩
  | cell ad t =>
    have hs := hinv.slots ad
    simp only [resSlot] at hp ⊢
    split
    · rename_i id n root hl
      rw [hl] at hs hp
      obtain ⟨m, fz0, c0, h1, h2, h3, e1⟩ := hs
      simp only at hp
      split
      · rename_i fz σ x hbox
        rw [hbox] at hp
        simp only at hp
        cases hb : tyIs C t σ && σ.beq root with
        | false => rw [hb] at hp; exact absurd rfl hp
        | true =>
          simp only [Bool.and_eq_true] at hb
          obtain ⟨te, hte, rfl⟩ := tyIs_spec hb.1
          obtain ⟨cs, et, k1, k2, k3, k4, k5⟩ := box_cells hinv hbox
          have hr : Rep g.G w te.ty x cs.toList := k2
          refine ⟨valOf te.ty cs.toList, ?_, SRel.dat ⟨_, hr, rfl⟩⟩
          have := run_loadVar T hte hr (b := g.ι id n) (o := 0) (w := w) (fun j c hj => by rw [Nat.zero_add]; exact k5 j c hj)
          simp only [resOne, e1, asAddr, pathOff, Sem.run_bind, Sem.run_pure, Result.andThen_ok, this]
      · rename_i fz k e x hbox
        rw [hbox] at hp
        simp only at hp
        cases hb : tyIs C t (.slc e) with
        | false => rw [hb] at hp; exact absurd rfl hp
        | true =>
          obtain ⟨te, hte, hty⟩ := tyIs_spec hb
          obtain ⟨cs, et, k1, ⟨v, k2, k2'⟩, k3, k4, k5⟩ := box_cells hinv hbox
          obtain ⟨et', tee, inf, q1, _⟩ := T.slc hte hty
          refine ⟨v, ?_, SRel.of0 k2'⟩
          have hc : w.cell? ⟨g.ι id n, 0, none⟩ = some v := k5 0 v (by rw [k2]; rfl)
          simp [resOne, e1, asAddr, pathOff, loadVar, isAgg, run_underlying q1, hc]
      · rename_i hn1 hn2
        exfalso
        apply hp
        split
        · exact absurd ‹_› (hn1 _ _ _)
        · exact absurd ‹_› (hn2 _ _ _ _)
        · rfl
    · rename_i hn
      exfalso
      apply hp
      split
      · exact absurd ‹_› (hn _ _ _)
      · rfl

theorem run_results {fn : Func} {tmps : Array Value} {vs : List Value} (h : Each (fun rv v => (resOne tmps rv).run P w = .ok v w) fn.results.toList vs) : (results fn tmps).run P w = .ok (tupVal vs) w := by
  have hl : ∀ (l : List ResultVar) (vs : List Value), Each (fun rv v => (resOne tmps rv).run P w = .ok v w) l vs → (l.mapM (resOne tmps)).run P w = .ok vs w := by
    intro l
    induction l with
    | nil => intro vs h; cases vs with
      | nil => rfl
      | cons _ _ => exact h.elim
    | cons x l ih => intro vs h; cases vs with
      | nil => exact h.elim
      | cons v vs =>
        rw [List.mapM_cons]
        simp only [Sem.run_bind, h.1, Result.andThen_ok, ih vs h.2, Sem.run_pure]
  have hm : (fn.results.mapM (resOne tmps)).run P w = .ok vs.toArray w := by
    rw [Array.mapM_eq_mapM_toList]
    simp only [Sem.run_map, hl _ _ h, Result.andThen_ok]
  have he : results fn tmps = (do let vs ← fn.results.mapM (resOne tmps); pure (if h : vs.size = 1 then vs[0] else .tuple vs)) := by
    unfold results
    congr 1
  rw [he]
  simp only [Sem.run_bind, hm, Result.andThen_ok, Sem.run_pure]
  congr 1
  match vs with
  | [] => rfl
  | [v] => rfl
  | v :: v' :: vs => simp [tupVal]

theorem asD_poison {τ : Ty} {x : τ.den} (h : asD τ .poison = some x) : False := by simp [asD] at h

/-- Results, one by one. -/
theorem asRs_rel {C : Ctx} (T : Types P C.tab) {N : Nat} {F : Fr} {g : Gs} {s : St} {a : Act} (hinv : Inv P N F g s a w) : ∀ (rs : List RTy) (l : List ResultVar) (r : rdens rs), asRs s rs (l.map (resSlot C s)) = some r →
    ∃ vs, Each (fun rv v => (resOne a.tmps rv).run P w = .ok v w) l vs ∧ ResPs P g.G w F.m F.B rs r vs := by
  have one : ∀ (rt : RTy) (rv : ResultVar) (r : rt.den), asR s rt (resSlot C s rv) = some r → ∃ v, (resOne a.tmps rv).run P w = .ok v w ∧ ResP P g.G w F.m F.B rt r v := by
    intro rt rv r hr
    cases rt with
    | data τ =>
      have hr' : asD τ (resSlot C s rv) = some r := hr
      obtain ⟨v, h1, h2⟩ := resSlot_rel T hinv rv (fun e => by rw [e] at hr'; exact asD_poison hr')
      exact ⟨v, h1, h2.asD hr'⟩
    | fresh e =>
      simp only [asR] at hr
      split at hr
      · rename_i tl htip
        obtain ⟨v, h1, h2⟩ := resSlot_rel T hinv rv (fun e => by rw [e] at hr; exact asD_poison hr)
        have hrep : RepV g.G w (.slc e) r v := h2.asD hr
        refine ⟨v, h1, hrep, ?_⟩
        generalize resSlot C s rv = u at *
        unfold hasTip at htip
        split at htip
        · have hv : v = .slice none 0 0 := h2
          exact ⟨none, 0, 0, hv, Nat.le_refl _, .inl rfl⟩
        · obtain ⟨_, ao, n, hv⟩ := h2
          exact ⟨ao, n, n, hv, Nat.le_refl _, .inl rfl⟩
        · rename_i T' n e' x
          cases castD_some (σ := .slc e') hr
          obtain ⟨_, m, hm, hle, hov⟩ := h2
          simp only [hm] at htip
          cases hb : Nat.beq m n with
          | false => rw [hb] at htip; cases htip
          | true =>
            have hov := hov (Nat.eq_of_beq_eq_true hb)
            obtain ⟨ao, k, c, q1, q2, q3⟩ := hinv.heap.tok T' m hm
            rw [hov] at q1 q3
            exact ⟨ao, k, c, q1, q2, q3⟩
        · cases htip
      · cases hr
    | seqr es =>
      have hr' : asP (.seqp es) (resSlot C s rv) = some r := hr
      obtain ⟨v, h1, h2⟩ := resSlot_rel T hinv rv (fun e => by rw [e] at hr'; cases hr')
      exact ⟨v, h1, h2.asP hr'⟩
    | fnr ps rs =>
      have hr' : asP (.fnp ps rs) (resSlot C s rv) = some r := hr
      obtain ⟨v, h1, h2⟩ := resSlot_rel T hinv rv (fun e => by rw [e] at hr'; cases hr')
      exact ⟨v, h1, h2.asP hr'⟩
  intro rs
  induction rs with
  | nil =>
    intro l r hr
    cases l with
    | nil => exact ⟨[], trivial, rfl⟩
    | cons _ _ => simp [asRs] at hr
  | cons rt rs ih =>
    intro l r hr
    cases rs with
    | nil =>
      cases l with
      | nil => simp [asRs] at hr
      | cons rv l =>
        cases l with
        | nil =>
          obtain ⟨v, h1, h2⟩ := one rt rv r hr
          exact ⟨[v], ⟨h1, trivial⟩, v, rfl, h2⟩
        | cons _ _ => simp [asRs] at hr
    | cons q rs =>
      cases l with
      | nil => simp [asRs] at hr
      | cons rv l =>
        simp only [List.map_cons, asRs] at hr
        rw [Option.bind_eq_some_iff] at hr
        obtain ⟨x, hx, hr⟩ := hr
        rw [Option.map_eq_some_iff] at hr
        obtain ⟨y, hy, rfl⟩ := hr
        obtain ⟨v, h1, h2⟩ := one rt rv x hx
        obtain ⟨vs, h3, h4⟩ := ih l y hy
        exact ⟨v :: vs, ⟨h1, h3⟩, v, vs, rfl, h2, h4⟩

theorem asDs_res {C : Ctx} (T : Types P C.tab) {N : Nat} {F : Fr} {g : Gs} {s : St} {a : Act} (hinv : Inv P N F g s a w) : ∀ (rs : List Ty) (l : List ResultVar) (r : dens rs), asDs rs (l.map (resSlot C s)) = some r →
    ∃ vs, Each (fun rv v => (resOne a.tmps rv).run P w = .ok v w) l vs ∧ ArgsD g.G w rs r vs := by
  have one : ∀ (τ : Ty) (rv : ResultVar) (r : τ.den), asD τ (resSlot C s rv) = some r → ∃ v, (resOne a.tmps rv).run P w = .ok v w ∧ RepV g.G w τ r v := by
    intro τ rv r hr'
    obtain ⟨v, h1, h2⟩ := resSlot_rel T hinv rv (fun e => by rw [e] at hr'; exact asD_poison hr')
    exact ⟨v, h1, h2.asD hr'⟩
  intro rs
  induction rs with
  | nil =>
    intro l r hr
    cases l with
    | nil => exact ⟨[], trivial, rfl⟩
    | cons _ _ => simp [asDs] at hr
  | cons rt rs ih =>
    intro l r hr
    cases rs with
    | nil =>
      cases l with
      | nil => simp [asDs] at hr
      | cons rv l =>
        cases l with
        | nil =>
          obtain ⟨v, h1, h2⟩ := one rt rv r hr
          exact ⟨[v], ⟨h1, trivial⟩, v, rfl, h2⟩
        | cons _ _ => simp [asDs] at hr
    | cons q rs =>
      cases l with
      | nil => simp [asDs] at hr
      | cons rv l =>
        simp only [List.map_cons, asDs] at hr
        rw [Option.bind_eq_some_iff] at hr
        obtain ⟨x, hx, hr⟩ := hr
        rw [Option.map_eq_some_iff] at hr
        obtain ⟨y, hy, rfl⟩ := hr
        obtain ⟨v, h1, h2⟩ := one rt rv x hx
        obtain ⟨vs, h3, h4⟩ := ih l y hy
        exact ⟨v :: vs, ⟨h1, h3⟩, v, vs, rfl, h2, h4⟩
end

theorem CtxOk.ntmps {P : Program} {C : Ctx} (h : CtxOk P C) (N : Nat) : CtxOk P { C with ntmps := N } := ⟨h.types, h.fts, h.pts, h.fns, h.cls, h.sqs, h.ems, h.mixed⟩

/-- The frame leaves: its marks are taken. -/
theorem leaves_marks {P : Program} {N : Nat} {F : Fr} {R : Type} {em : EmR R} {τ : Nat} {J : R → Gh → World → Prop} (hE : EmOk P F τ em J) (hobjs : F.objs = []) (hrd : F.rd = none) {fn : Func} {tmps : Array Value} {R' : Ending → World → Prop} {g : Gs} {s : St} {r : R} :
    ∀ (Ds : List Nat) {a : Act} {w : World}, a.defers = Ds.map mark → Inv P N F g s a w → J r g.G w → (∀ w2, Inv P N F g s { a with defers := [] } w2 → J r g.G w2 → ∃ v, (results fn tmps).run P w2 = .ok v w2 ∧ R' (.returned v) w2) →
      LeavesInM (wr none) 0 P fn tmps R' a.defers .returning w
  | [], a, w, hd, hinv, hJ, hK => by
    obtain ⟨tm, ds⟩ := a
    have hd : ds = [] := hd
    subst hd
    exact hK w hinv hJ
  | D :: Ds, a, w, hd, hinv, hJ, hK => by
    obtain ⟨tm, ds⟩ := a
    have hd : ds = mark D :: Ds.map mark := hd
    subst hd
    obtain ⟨Ds', h1, h2, h3⟩ := hinv.defers
    have inj : ∀ (l l' : List Nat), l.map mark = l'.map mark → l = l' := by
      intro l
      induction l with
      | nil => intro l' e; cases l' with
        | nil => rfl
        | cons _ _ => cases e
      | cons x l ih => intro l' e; cases l' with
        | nil => cases e
        | cons y l' =>
          simp only [List.map_cons, List.cons.injEq] at e
          have : x = y := by have := congrArg Deferred.target e.1; simpa [mark] using this
          rw [this, ih l' e.2]
    have hDs : D :: Ds = Ds' := inj (D :: Ds) Ds' h1
    subst hDs
    obtain ⟨q1, q2⟩ := h3 D List.mem_cons_self
    obtain ⟨hn1, hn2⟩ := List.nodup_cons.1 h2
    have hi2 := Inv.putObj (O := []) (O' := F.objs) (ds := Ds.map mark) (o' := .deferred none) hinv q1 rfl q2 ⟨Ds, rfl, hn2, fun D' hD' => by
      obtain ⟨p1, p2⟩ := h3 D' (List.mem_cons_of_mem _ hD')
      have hne : D' ≠ D := fun e => hn1 (e ▸ hD')
      exact ⟨by rw [World.putObj_heap_other hne]; exact p1, p2⟩⟩ (fun l' o ho => by rw [hobjs] at ho; cases ho) (fun l' hl' => by rw [hrd] at hl'; cases hl')
    have hj2 : J r g.G (w.putObj D (.deferred none)) := hE.ab _ _ _ _ _ hJ (Kp.putObj q1 rfl (fun hu => by
      rw [q2] at hu
      have hu : F.m ≤ τ := hu
      have := hE.lt
      omega))
    refine ⟨by simp, .inl ⟨D, _, rfl, run_takeDeferred q1, ?_⟩⟩
    exact leaves_marks hE hobjs hrd Ds (a := { tmps := tm, defers := Ds.map mark }) rfl hi2 hj2 hK

/-- Levels, behind a call: what was the callee's own is nobody's, or the caller's. -/
def Own.relev (m t : Nat) : Own → Own
  | .stays => .stays
  | .mine j => if j ≤ t then .mine j else .stays
  | .room j hi => if j ≤ t then .room j hi else .room m hi
theorem Own.relev_upto {m t : Nat} (h : m ≤ t) : ∀ o : Own, (o.relev m t).upto t
  | .stays => trivial
  | .mine j => by
    by_cases h : j ≤ t
    · rw [show Own.relev m t (.mine j) = .mine j from if_pos h]; exact h
    · rw [show Own.relev m t (.mine j) = .stays from if_neg h]; trivial
  | .room j hi => by
    by_cases h' : j ≤ t
    · rw [show Own.relev m t (.room j hi) = .room j hi from if_pos h']; exact h'
    · rw [show Own.relev m t (.room j hi) = .room m hi from if_neg h']; exact h
theorem Own.relev_of {m t : Nat} : ∀ {o : Own}, o.upto t → o.relev m t = o
  | .stays, _ => rfl
  | .mine j, h => if_pos h
  | .room j hi, h => if_pos h
def Gh.relev (m t : Nat) (G : Gh) : Gh := fun b => (G b).relev m t
theorem Gh.relev_adv (m t : Nat) (G : Gh) (w : World) : Adv G w (G.relev m t) w := by
  refine ⟨fun b o v hc hs => ⟨hc, ?_⟩⟩
  unfold Gh.st Gh.relev at *
  cases hg : G b with
  | stays => trivial
  | mine j => rw [hg] at hs; exact hs.elim
  | room j hi =>
    rw [hg] at hs
    by_cases h : j ≤ t
    · rw [show Own.relev m t (.room j hi) = .room j hi from if_pos h]; exact hs
    · rw [show Own.relev m t (.room j hi) = .room m hi from if_neg h]; exact hs
theorem resPs_relev {P : Program} {G : Gh} {w : World} {m t B : Nat} : ∀ (rs : List RTy) (x : rdens rs) (us : List Value), ResPs P G w (t + 1) B rs x us → ResPs P (G.relev m t) w m B rs x us := by
  have ha := Gh.relev_adv m t G w
  have one : ∀ (r : RTy) (x : r.den) (v : Value), ResP P G w (t + 1) B r x v → ResP P (G.relev m t) w m B r x v := by
    intro r x v h
    cases r with
    | data τ => exact RepV.adv ha h
    | fresh e =>
      obtain ⟨h1, ao, k, c, h2, h3, h4⟩ := h
      refine ⟨RepV.adv ha h1, ao, k, c, h2, h3, ?_⟩
      rcases h4 with h4 | ⟨b, cur, et, q1, q2, q3⟩
      · exact .inl h4
      · refine .inr ⟨b, cur, et, q1, ?_, q3⟩
        show Own.relev m t (G b) = _
        rw [q2]; exact if_neg (by omega)
    | seqr es => exact SeqRel.adv ha h
    | fnr ps rs => exact FnRel.adv ha h
  intro rs
  induction rs with
  | nil => intro x us h; exact h
  | cons r rs ih =>
    intro x us h
    cases rs with
    | nil => obtain ⟨v, h1, h2⟩ := h; exact ⟨v, h1, one _ _ _ h2⟩
    | cons q rs => obtain ⟨v, vs, h1, h2, h3⟩ := h; exact ⟨v, vs, h1, one _ _ _ h2, ih _ _ h3⟩

theorem EmOk.none {P : Program} {F : Fr} {R : Type} {k : Nat} (h : F.m = k + 1) (r : R) : EmOk P F k (EmR.no R) (fun r' _ _ => r' = r) := ⟨by omega, fun _ _ _ _ _ h _ => h, .inl fun _ _ _ => rfl⟩

/-- What the end of a call leaves. -/
theorem Inv.leave {P : Program} {N : Nat} {pins : List Nat} {vs : List Value} {k l : Nat} {G : Gh} {w : World} {g : Gs} {s : St} {a : Act} {w2 : World} (h : Inv P N (frame0 N pins vs k (Own.offs (k + 1)) l G w) g s a w2) (hlv : Lv k G w) {m : Nat} (hm : m ≤ k) :
    Fwd G w (g.G.relev m k) w2 ∧ Lv k (g.G.relev m k) w2 := by
  have hf : Fwd G w g.G w2 := Kp.fwd h.stp fun b hb => Own.upto_offs (Nat.lt_succ_self k) _ (hlv b hb)
  refine ⟨⟨hf.below, fun b hb => ?_⟩, fun b hb => Own.relev_upto hm _⟩
  show Own.relev m k (g.G b) = G b
  rw [hf.own b hb]
  exact Own.relev_of (hlv b hb)

/-- A function's contract, from slots that hold the arguments. -/
theorem calls_of_runS {P : Program} {C : Ctx} (hC : CtxOk P C) {f : FuncId} {fn : Func} (hf : P.funcs[f]? = some fn) {code : Code} (hb : fn.body = some code) {rs : List RTy} {n : Nat} {slots : List (Nat × S)} {vs : List Value} {G : Gh} {w : World} {m t : Nat} (hm : m ≤ t) (hlv : Lv t G w) (hlen : vs.length ≤ fn.ntmps)
    (hs : ∀ g : Gs, g.G = G → ∀ t u, lookO slots t = some u → ∃ v, vs[t]? = some v ∧ SRel0 P [] g w u v) {r : rdens rs} (hrun : runBody { C with ntmps := fn.ntmps } n code fn.results.toList rs { slots := slots, heap := [] } = some r) :
    Calls P f vs.toArray w fun e w' => ∃ us G', e = .returned (tupVal us) ∧ Fwd G w G' w' ∧ Lv t G' w' ∧ ResPs P G' w' m w.heap.size rs r us := by
  obtain ⟨g, hg, hinv⟩ := Inv.start (P := P) (G := G) (w := w) (slots := slots) (vs := vs) (N := fn.ntmps) hlen (k := t) (l := 0) (p := Own.offs (t + 1)) hlv (fun _ h => h) C.pins (fun g hg _ => hs g hg)
  have hC' := hC.ntmps fn.ntmps
  have hE : EmOk P (frame0 fn.ntmps C.pins vs t (Own.offs (t + 1)) 0 G w) t (EmR.no (rdens rs)) (fun r' _ _ => r' = r) := EmOk.none rfl r
  refine calls_of_wr (n := 0) (callsIn_of_wp_marks hf hb trivial (exec_sound code hC' (F := frame0 fn.ntmps C.pins vs t (Own.offs (t + 1)) 0 G w) rfl hE (r := r) hinv rfl hrun fun e s' g' a' w' r' hi hr hk => ?_))
  subst hr
  have fin : asRs s' rs (fn.results.toList.map (resSlot { C with ntmps := fn.ntmps } s')) = some r' → LeavesInM (wr none) 0 P fn a'.tmps (fun e w' => ∃ us G', e = .returned (tupVal us) ∧ Fwd G w G' w' ∧ Lv t G' w' ∧ ResPs P G' w' m w.heap.size rs r' us) a'.defers .returning w' := by
    intro hk
    obtain ⟨Ds, hds, _⟩ := hi.defers
    refine leaves_marks hE rfl rfl (r := r') Ds hds hi rfl fun w2 hi2 _ => ?_
    obtain ⟨vs, h1, h2⟩ := asRs_rel (C := { C with ntmps := fn.ntmps }) hC.types hi2 rs fn.results.toList r' hk
    obtain ⟨l1, l2⟩ := hi2.leave hlv hm
    exact ⟨_, run_results h1, vs, _, rfl, l1, l2, resPs_relev rs r' vs h2⟩
  cases e with
  | normal => exact fin hk
  | ret => exact fin hk
  | exit id => cases hk

/-- A function's contract. -/
theorem soundE_of_run {P : Program} {C : Ctx} (hC : CtxOk P C) {f : FuncId} {fn : Func} (hf : P.funcs[f]? = some fn) (hname : (fn.name == "runtime.NumGoroutine") = false) (hbody : fn.body.isSome = true) {en : Ent} {n : Nat}
    (h : ∀ x r, en.g x = some r → run C n fn en.ps en.rs x = some r) : SoundE P f en := by
  obtain ⟨code, hb⟩ := Option.isSome_iff_exists.1 hbody
  refine ⟨⟨fn, hf, hbody, hname⟩, fun m t G w hm hlv xs vs hxs r hr => ?_⟩
  have hrun := h xs r hr
  unfold run at hrun
  rw [hb] at hrun
  simp only at hrun
  cases hle : Nat.ble en.ps.length fn.ntmps with
  | false => rw [hle] at hrun; cases hrun
  | true =>
    rw [hle, cond_true] at hrun
    have hlen := argsP_len en.ps xs vs hxs
    exact calls_of_runS hC hf hb hm hlv (by rw [hlen]; exact Nat.le_of_ble_eq_true hle) (fun g hg t u hl => by
      obtain ⟨v, _, h2, h3⟩ := argSlots_rel (H := []) hg en.ps xs vs hxs 0 t u hl
      exact ⟨v, h2, h3⟩) hrun

/-- The contract of a function of one slice that asks whether it is nil. -/
theorem soundE_of_nil {P : Program} {C : Ctx} (hC : CtxOk P C) {f : FuncId} {fn : Func} (hf : P.funcs[f]? = some fn) (hname : (fn.name == "runtime.NumGoroutine") = false) (hbody : fn.body.isSome = true) (hle : Nat.ble 1 fn.ntmps = true)
    {e : Ty} {rs : List RTy} {g : List e.den → Option (rdens rs)} {n : Nat}
    (h0 : ∀ r, g [] = some r → runS C n fn [(0, .nil)] rs = some r) (h1 : ∀ x r, g x = some r → runS C n fn [(0, .lst .nn e x)] rs = some r) : SoundE P f ⟨[.data (.slc e)], rs, g⟩ := by
  obtain ⟨code, hb⟩ := Option.isSome_iff_exists.1 hbody
  refine ⟨⟨fn, hf, hbody, hname⟩, fun m t G w hm hlv xs vs hxs r hr => ?_⟩
  obtain ⟨v, rfl, hv⟩ := hxs
  have hv : RepV G w (.slc e) xs v := hv
  obtain ⟨cs, hcs, hvv⟩ := id hv
  obtain ⟨ao, cap, rfl, hle2, hrest⟩ := hcs
  have hvv : v = .slice ao xs.length cap := hvv
  unfold runS at h0 h1
  rw [hb] at h0 h1
  simp only at h0 h1
  cases ao with
  | none =>
    have hrest : cap = 0 := hrest
    subst hrest
    have : xs = [] := List.length_eq_zero_iff.1 (by omega)
    subst this
    refine calls_of_runS hC hf hb hm hlv (slots := [(0, .nil)]) (by simpa using Nat.le_of_ble_eq_true hle) (fun g hg t u hl => ?_) (h0 r hr)
    rw [lookO_cons] at hl
    by_cases ht : 0 = t
    · rw [if_pos ht] at hl
      cases hl
      exact ⟨v, by rw [← ht]; rfl, hvv⟩
    · rw [if_neg ht] at hl; cases hl
  | some ad =>
    refine calls_of_runS hC hf hb hm hlv (slots := [(0, .lst .nn e xs)]) (by simpa using Nat.le_of_ble_eq_true hle) (fun g hg t u hl => ?_) (h1 xs r hr)
    rw [lookO_cons] at hl
    by_cases ht : 0 = t
    · rw [if_pos ht] at hl
      cases hl
      subst hg
      exact ⟨v, by rw [← ht]; rfl, hv, ad, _, _, hvv⟩
    · rw [if_neg ht] at hl; cases hl

/-- A closure's contract. -/
theorem soundC_of_run {P : Program} {C : Ctx} (hC : CtxOk P C) {f : FuncId} {fn : Func} (hf : P.funcs[f]? = some fn) (hname : (fn.name == "runtime.NumGoroutine") = false) (hbody : fn.body.isSome = true) {cl : Cl} {n : Nat}
    (h : ∀ x c r, cl.g x c = some r → runC C n fn cl.ps cl.caps cl.rs x c = some r) : SoundC P f cl := by
  obtain ⟨code, hb⟩ := Option.isSome_iff_exists.1 hbody
  refine ⟨⟨fn, hf, hbody, hname⟩, fun t G w hlv xs vs cs ws hxs hcs r hr => ?_⟩
  have hrun := h xs cs r hr
  unfold runC at hrun
  rw [hb] at hrun
  simp only at hrun
  cases hle : Nat.ble (cl.ps.length + cl.caps.length) fn.ntmps with
  | false => rw [hle] at hrun; cases hrun
  | true =>
    rw [hle, cond_true] at hrun
    have hlen1 := argsD_len cl.ps xs vs hxs
    have hlen2 := argsP_len cl.caps cs ws hcs
    obtain ⟨g, hg, hinv⟩ := Inv.start (P := P) (G := G) (w := w) (slots := datSlots cl.ps xs 0 ++ argSlots cl.caps cs cl.ps.length) (vs := vs ++ ws) (N := fn.ntmps) (by rw [List.length_append, hlen1, hlen2]; exact Nat.le_of_ble_eq_true hle) (k := t) (l := 0) (p := Own.offs (t + 1)) hlv (fun _ h => h) C.pins (fun g hg _ t u hl => by
      rw [lookO_append] at hl
      cases hl1 : lookO (datSlots cl.ps xs 0) t with
      | some u' =>
        rw [hl1] at hl
        cases hl
        obtain ⟨v, _, h2, h3⟩ := datSlots_rel (H := []) hg cl.ps xs vs hxs 0 t _ hl1
        have ht : t < vs.length := (List.getElem?_eq_some_iff.1 h2).1
        exact ⟨v, by rw [List.getElem?_append_left ht]; exact h2, h3⟩
      | none =>
        rw [hl1, Option.none_or] at hl
        obtain ⟨v, hle', h2, h3⟩ := argSlots_rel (H := []) hg cl.caps cs ws hcs cl.ps.length t u hl
        exact ⟨v, by rw [List.getElem?_append_right (by omega), hlen1]; exact h2, h3⟩)
    have hC' := hC.ntmps fn.ntmps
    have hargs : vs.toArray ++ ws.toArray = (vs ++ ws).toArray := by simp
    rw [hargs]
    have hE : EmOk P (frame0 fn.ntmps C.pins (vs ++ ws) t (Own.offs (t + 1)) 0 G w) t (EmR.no (dens cl.rs)) (fun r' _ _ => r' = r) := EmOk.none rfl r
    refine calls_of_wr (n := 0) (callsIn_of_wp_marks hf hb trivial (exec_sound code hC' (F := frame0 fn.ntmps C.pins (vs ++ ws) t (Own.offs (t + 1)) 0 G w) rfl hE (r := r) hinv rfl hrun fun e s' g' a' w' r' hi hr' hk => ?_))
    subst hr'
    have fin : asDs cl.rs (fn.results.toList.map (resSlot { C with ntmps := fn.ntmps } s')) = some r' → LeavesInM (wr none) 0 P fn a'.tmps (fun e w' => ∃ v G', e = .returned v ∧ Fwd G w G' w' ∧ Lv t G' w' ∧ ResD G' w' cl.rs r' v) a'.defers .returning w' := by
      intro hk
      obtain ⟨Ds, hds, _⟩ := hi.defers
      refine leaves_marks hE rfl rfl (r := r') Ds hds hi rfl fun w2 hi2 _ => ?_
      obtain ⟨vs, h1, h2⟩ := asDs_res (C := { C with ntmps := fn.ntmps }) hC.types hi2 cl.rs fn.results.toList r' hk
      obtain ⟨l1, l2⟩ := hi2.leave hlv (Nat.le_refl t)
      exact ⟨_, run_results h1, _, _, rfl, l1, l2, vs, ArgsD.adv (Gh.relev_adv t t g'.G w2) _ _ _ h2, rfl⟩
    cases e with
    | normal => exact fin hk
    | ret => exact fin hk
    | exit id => cases hk

/-- An iterator's contract. -/
theorem soundQ_of_run {P : Program} {C : Ctx} (hC : CtxOk P C) {f : FuncId} {fn : Func} (hf : P.funcs[f]? = some fn) (hname : (fn.name == "runtime.NumGoroutine") = false) (hbody : fn.body.isSome = true) {sq : Sq} {n : Nat}
    (h : ∀ x c xs, sq.g x c = some xs → runQ C n fn sq.firsts sq.es sq.caps x c = some xs) : SoundQ P f sq := by
  obtain ⟨code, hb⟩ := Option.isSome_iff_exists.1 hbody
  refine ⟨⟨fn, hf, hbody, hname⟩, fun τ G w hlv fs vs cs ws hfs hcs xs hxs l J hJ hY hJ0 => ?_⟩
  have hrun := h fs cs xs hxs
  unfold runQ at hrun
  rw [hb] at hrun
  simp only at hrun
  cases hle : Nat.ble (sq.firsts.length + (1 + sq.caps.length)) fn.ntmps && fn.results.toList.isEmpty with
  | false => rw [hle] at hrun; cases hrun
  | true =>
    rw [hle, cond_true] at hrun
    simp only [Bool.and_eq_true] at hle
    obtain ⟨hle, hres⟩ := hle
    have hres : fn.results.toList = [] := List.isEmpty_iff.1 hres
    have hle := Nat.le_of_ble_eq_true hle
    have hlen1 := argsP_len sq.firsts fs vs hfs
    have hlen2 := argsP_len sq.caps cs ws hcs
    obtain ⟨g, hg, hinv⟩ := Inv.start (P := P) (G := G) (w := w) (slots := argSlots sq.firsts fs 0 ++ (sq.firsts.length, .yld sq.es) :: argSlots sq.caps cs (sq.firsts.length + 1)) (vs := vs ++ (.func (.yield l) #[] #[] :: ws)) (N := fn.ntmps)
        (by rw [List.length_append, List.length_cons, hlen1, hlen2]; omega) (k := τ) (l := l) (p := fun _ => False) hlv (fun _ h => h.elim) C.pins (fun g hg hyl t u hl => by
      rw [lookO_append] at hl
      cases hl1 : lookO (argSlots sq.firsts fs 0) t with
      | some u' =>
        rw [hl1] at hl
        cases hl
        obtain ⟨v, _, h2, h3⟩ := argSlots_rel (H := []) hg sq.firsts fs vs hfs 0 t _ hl1
        have ht : t < vs.length := (List.getElem?_eq_some_iff.1 h2).1
        exact ⟨v, by rw [List.getElem?_append_left ht]; exact h2, h3⟩
      | none =>
        rw [hl1, Option.none_or, lookO_cons] at hl
        by_cases e : sq.firsts.length = t
        · rw [if_pos e] at hl
          cases hl
          refine ⟨.func (.yield l) #[] #[], by rw [List.getElem?_append_right (by omega), show t - vs.length = 0 by omega]; rfl, ?_⟩
          show _ = Value.func (.yield g.yl) #[] #[]
          rw [hyl]
        · rw [if_neg e] at hl
          obtain ⟨v, hle', h2, h3⟩ := argSlots_rel (H := []) hg sq.caps cs ws hcs (sq.firsts.length + 1) t u hl
          refine ⟨v, ?_, h3⟩
          rw [List.getElem?_append_right (by omega), show t - vs.length = (t - (sq.firsts.length + 1)) + 1 by omega, List.getElem?_cons_succ]
          exact h2)
    have hC' := hC.ntmps fn.ntmps
    have hargs : vs.toArray ++ #[.func (.yield l) #[] #[]] ++ ws.toArray = (vs ++ (.func (.yield l) #[] #[] :: ws)).toArray := by simp
    rw [hargs]
    have hE : EmOk P (frame0 fn.ntmps C.pins (vs ++ (.func (.yield l) #[] #[] :: ws)) τ (fun _ => False) l G w) τ (EmR.seq sq.es) J := ⟨Nat.lt_succ_self _, hJ, .inr ⟨fun _ h => h.elim, hY⟩⟩
    refine calls_of_wr (n := 0) (callsIn_of_wp_marks hf hb trivial (exec_sound code hC' (F := frame0 fn.ntmps C.pins (vs ++ (.func (.yield l) #[] #[] :: ws)) τ (fun _ => False) l G w) rfl hE (r := xs) hinv (by rw [hg]; exact hJ0) hrun fun e s' g' a' w' r' hi hj hk => ?_))
    have fin : r' = [] → LeavesInM (wr none) 0 P fn a'.tmps (fun e w' => ∃ v G', e = .returned v ∧ J [] G' w') a'.defers .returning w' := by
      intro hr'
      subst hr'
      obtain ⟨Ds, hds, _⟩ := hi.defers
      refine leaves_marks hE rfl rfl (r := []) Ds hds hi hj fun w2 hi2 hj2 => ?_
      exact ⟨_, run_results (vs := []) (by rw [hres]; trivial), _, g'.G, rfl, hj2⟩
    cases e with
    | normal => exact fin (Option.some.inj hk).symm
    | ret => exact fin (Option.some.inj hk).symm
    | exit id => cases hk

theorem resPs_adv {P : Program} {G G' : Gh} {w w' : World} {m B m' B' : Nat} (ha : Adv G w G' w') : ∀ (rs : List RTy) (x : rdens rs) (us : List Value), rs.any RTy.isFresh = false → ResPs P G w m B rs x us → ResPs P G' w' m' B' rs x us := by
  have one : ∀ (r : RTy) (x : r.den) (v : Value), r.isFresh = false → ResP P G w m B r x v → ResP P G' w' m' B' r x v := by
    intro r x v hf h
    cases r with
    | data τ => exact RepV.adv ha h
    | fresh e => cases hf
    | seqr es => exact SeqRel.adv ha h
    | fnr ps rs => exact FnRel.adv ha h
  intro rs
  induction rs with
  | nil => intro x us _ h; exact h
  | cons r rs ih =>
    intro x us hf h
    rw [List.any_cons, Bool.or_eq_false_iff] at hf
    cases rs with
    | nil => obtain ⟨v, h1, h2⟩ := h; exact ⟨v, h1, one _ _ _ hf.1 h2⟩
    | cons q rs => obtain ⟨v, vs, h1, h2, h3⟩ := h; exact ⟨v, vs, h1, one _ _ _ hf.1 h2, ih _ _ hf.2 h3⟩

/-- The contract of a function that writes what its first argument points to. -/
theorem soundM_of_run {P : Program} {C : Ctx} (hC : CtxOk P C) {f : FuncId} {fn : Func} (hf : P.funcs[f]? = some fn) (hname : (fn.name == "runtime.NumGoroutine") = false) (hbody : fn.body.isSome = true) {em : Em} {n : Nat}
    (h : ∀ y x q, em.g y x = some q → runM C n fn em.τ em.ps em.rs y x = some q) : SoundM P f em := by
  obtain ⟨code, hb⟩ := Option.isSome_iff_exists.1 hbody
  refine ⟨⟨fn, hf, hbody, hname⟩, fun m t G w hm hlv b cs et y hblk hGb hrep xs vs hxs y' r hr => ?_⟩
  have hrun := h y xs _ hr
  unfold runM at hrun
  rw [hb] at hrun
  simp only at hrun
  cases hle : Nat.ble (1 + em.ps.length) fn.ntmps && !em.rs.any RTy.isFresh with
  | false => rw [hle] at hrun; cases hrun
  | true =>
    rw [hle, cond_true] at hrun
    simp only [Bool.and_eq_true, Bool.not_eq_true'] at hle
    obtain ⟨hle, hfresh⟩ := hle
    have hle := Nat.le_of_ble_eq_true hle
    have hlen := argsP_len em.ps xs vs hxs
    obtain ⟨G1, hG1⟩ : ∃ G1 : Gh, G1 = fun k => if k = b then .mine (t + 1) else G k := ⟨_, rfl⟩
    have hG1b : G1 b = .mine (t + 1) := by rw [hG1]; simp
    have hG1n : ∀ k, k ≠ b → G1 k = G k := fun k hk => by rw [hG1]; simp [hk]
    have hadv1 : Adv G w G1 w := ⟨fun k o v hc hs => ⟨hc, by
      by_cases e : k = b
      · unfold Gh.st at hs
        rw [e, hGb] at hs
        exact hs.elim
      · unfold Gh.st at *
        rw [hG1n k e]; exact hs⟩⟩
    have hlv1 : Lv (t + 1) G1 w := fun k hk => by
      by_cases e : k = b
      · rw [e, hG1b]; exact Nat.le_refl _
      · rw [hG1n k e]; exact Own.upto_mono (Nat.le_succ _) (hlv k hk)
    obtain ⟨pv, hpv⟩ : ∃ pv : Value, pv = .pointer (some ⟨b, 0, none⟩) := ⟨_, rfl⟩
    obtain ⟨F, hF⟩ : ∃ F : Fr, F = frame0 fn.ntmps [0] (pv :: vs) t (Own.offs (t + 1)) 0 G1 w := ⟨_, rfl⟩
    have hsize : (tmps0 fn.ntmps (pv :: vs)).size = fn.ntmps := by simp [tmps0]; omega
    have htmp : ∀ i v, (pv :: vs)[i]? = some v → (tmps0 fn.ntmps (pv :: vs)).getD i undef = v := by
      intro i v hi
      have ht : i < (pv :: vs).length := (List.getElem?_eq_some_iff.1 hi).1
      unfold tmps0
      rw [Array.getD_eq_getD_getElem?, Array.getElem?_append_left (by simpa using ht)]
      simp [hi]
    have hinv : Inv P fn.ntmps F ⟨G1, fun _ _ => b, fun _ => (undef, 0), 0⟩ { slots := (0, .ptr 0 0 em.τ []) :: argSlots em.ps xs 1, heap := [(0, .box 0 false (.dat em.τ y))] } { tmps := tmps0 fn.ntmps (pv :: vs), defers := [] } w := by
      subst hF
      refine ⟨fun i => ?_, hsize, Marks.nil _ _ _, ⟨fun id n' fz c hl => ?_, fun T n' hl => ?_, fun id n' fz c id' n'' fz' c' h1 h2 hne => ?_, fun T n' T' n'' h1 => ?_⟩, Kp.refl _ _ _, hlv1, Nat.le_refl _, Nat.le_refl _, fun l o h => (by cases h), fun i _ => rfl, rfl, fun _ h => h, fun l h => (by cases h), hlv1⟩
      · rw [look_lookO, lookO_cons]
        by_cases e : 0 = i
        · rw [if_pos e]
          subst e
          rw [htmp 0 pv rfl, hpv]
          exact SRel.of0 ⟨0, false, _, by rw [lookO_cons, if_pos rfl], Nat.le_refl _, trivial, rfl⟩
        · rw [if_neg e]
          cases hl : lookO (argSlots em.ps xs 1) i with
          | none => exact SRel.of0 (s := .poison) trivial
          | some u =>
            obtain ⟨v, h1, h2, h3⟩ := argSlots_rel (P := P) (w := w) (H := [(0, .box 0 false (.dat em.τ y))]) (g := ⟨G1, fun _ _ => b, fun _ => (undef, 0), 0⟩) rfl em.ps xs vs (hxs.adv hadv1) 1 i u hl
            rw [htmp i v (by rw [show i = (i - 1) + 1 by omega, List.getElem?_cons_succ]; exact h2)]
            exact SRel.of0 h3
      · rw [lookO_cons] at hl
        by_cases e : 0 = id
        · rw [if_pos e] at hl
          cases hl
          exact ⟨cs, et, hblk, Rep.adv hadv1 _ _ _ hrep, by rw [if_neg (by simp)]; exact hG1b⟩
        · rw [if_neg e] at hl; cases hl
      · rw [lookO_cons] at hl
        by_cases e : 0 = T
        · rw [if_pos e] at hl; cases hl
        · rw [if_neg e] at hl; cases hl
      · rw [lookO_cons] at h1 h2
        by_cases e : 0 = id
        · by_cases e' : 0 = id'
          · exact absurd (e.symm.trans e') hne
          · rw [if_neg e'] at h2; cases h2
        · rw [if_neg e] at h1; cases h1
      · rw [lookO_cons] at h1
        by_cases e : 0 = T
        · rw [if_pos e] at h1; cases h1
        · rw [if_neg e] at h1; cases h1
    have hC' : CtxOk P { C with ntmps := fn.ntmps, pins := [0] } := ⟨hC.types, hC.fts, hC.pts, hC.fns, hC.cls, hC.sqs, hC.ems, hC.mixed⟩
    have hFm : F.m = t + 1 := by rw [hF]; rfl
    have hE : EmOk P F t (EmR.no (em.τ.den × rdens em.rs)) (fun r' _ _ => r' = (y', r)) := EmOk.none hFm _
    have hargs : #[Value.pointer (some ⟨b, 0, none⟩)] ++ vs.toArray = (pv :: vs).toArray := by rw [hpv]; simp
    rw [hargs]
    have hrd : F.rd = none := by rw [hF]; rfl
    have key : code.wpIn (wr F.rd) 0 P (bodyPostM (wr none) 0 P fn (fun e w' => ∃ us G' cs' et', e = .returned (tupVal us) ∧ w'.heap[b]? = some (.cells cs' et' (0, 0)) ∧ G' b = .mine m ∧ Rep G' w' em.τ y' cs'.toList ∧ FwdX b G w G' w' ∧ Lv t G' w' ∧ ResPs P G' w' m w.heap.size em.rs r us)) { tmps := tmps0 fn.ntmps (pv :: vs), defers := [] } w := by
      refine exec_sound code hC' (F := F) (by rw [hF]; rfl) hE (r := (y', r)) hinv rfl hrun fun e s' g' a' w' r' hi hr' hk => ?_
      subst hr'
      have fin : finM { C with ntmps := fn.ntmps, pins := [0] } fn.results.toList em.τ em.rs s' = some (y', r) → LeavesInM (wr none) 0 P fn a'.tmps (fun e w' => ∃ us G' cs' et', e = .returned (tupVal us) ∧ w'.heap[b]? = some (.cells cs' et' (0, 0)) ∧ G' b = .mine m ∧ Rep G' w' em.τ y' cs'.toList ∧
            FwdX b G w G' w' ∧ Lv t G' w' ∧ ResPs P G' w' m w.heap.size em.rs r us) a'.defers .returning w' := by
        intro hk
        unfold finM at hk
        split at hk
        · rename_i root hsl
          split at hk
          · rename_i σ z hbox
            split at hk
            · rename_i z' r' hz hres
              cases hk
              cases castD_some hz
              obtain ⟨Ds, hds, _⟩ := hi.defers
              refine leaves_marks hE (by rw [hF]; rfl) hrd (r := (y', r)) Ds hds hi rfl fun w2 hi2 _ => ?_
              obtain ⟨us, h1, h2⟩ := asRs_rel (C := { C with ntmps := fn.ntmps, pins := [0] }) hC.types hi2 em.rs fn.results.toList r hres
              obtain ⟨cs', et', k1, k2, k3⟩ := hi2.heap.box 0 0 false _ (box_spec hbox)
              rw [if_neg (by simp)] at k3
              -- the variable is the one that was handed in
              have hι : g'.ι 0 0 = b := by
                have hs := hi2.slots 0
                rw [hsl] at hs
                obtain ⟨_, _, _, _, _, _, e1⟩ := hs
                have hp := hi2.pin 0 (by rw [hF]; exact List.mem_singleton.2 rfl)
                have hp0 : F.pv 0 = pv := by rw [hF]; exact htmp 0 pv rfl
                have e1 : a'.tmps.getD 0 undef = .pointer (some ⟨g'.ι 0 0, 0, none⟩) := e1
                have hp : a'.tmps.getD 0 undef = F.pv 0 := hp
                rw [hp, hp0, hpv] at e1
                cases e1; rfl
              rw [hι] at k1 k3
              rw [hFm] at k3
              have hstp : Kp (Own.offs (t + 1)) G1 w g'.G w2 := by have := hi2.stp; rw [hF] at this; exact this
              have hsame : ∀ k, k < w.heap.size → k ≠ b → w2.heap[k]? = w.heap[k]? ∧ g'.G k = G k := fun k hk hne => by
                obtain ⟨q1, q2⟩ := hstp.same k hk (by rw [hG1n k hne]; exact Own.upto_offs (Nat.lt_succ_self t) _ (hlv k hk))
                exact ⟨q1, q2.trans (hG1n k hne)⟩
              obtain ⟨G2, hG2⟩ : ∃ G2 : Gh, G2 = fun k => if k = b then .mine m else (g'.G k).relev m t := ⟨_, rfl⟩
              have hG2b : G2 b = .mine m := by rw [hG2]; simp
              have hG2n : ∀ k, k ≠ b → G2 k = (g'.G k).relev m t := fun k hk => by rw [hG2]; simp [hk]
              have hadv2 : Adv g'.G w2 G2 w2 := ⟨fun k o v hc hs => ⟨hc, by
                by_cases e : k = b
                · unfold Gh.st at hs
                  rw [e, k3] at hs
                  exact hs.elim
                · have := ((Gh.relev_adv m t g'.G w2).cell k o v hc hs).2
                  unfold Gh.st Gh.relev at *
                  rw [hG2n k e]; exact this⟩⟩
              refine ⟨_, run_results h1, us, G2, cs', et', rfl, k1, hG2b, Rep.adv hadv2 _ _ _ k2, ⟨hstp.os, hstp.tape, hstp.output, hstp.size, fun k hk hne => ?_, (hadv1.trans hstp.adv).trans hadv2⟩, fun k hk => ?_, resPs_adv hadv2 em.rs r us hfresh h2⟩
              · obtain ⟨q1, q2⟩ := hsame k hk hne
                exact ⟨q1, by rw [hG2n k hne, q2]; exact Own.relev_of (hlv k hk)⟩
              · by_cases e : k = b
                · rw [e, hG2b]; exact hm
                · rw [hG2n k e]; exact Own.relev_upto hm _
            · cases hk
          · cases hk
        · cases hk
      cases e with
      | normal => exact fin hk
      | ret => exact fin hk
      | exit id => cases hk
    rw [hrd] at key
    exact calls_of_wr (n := 0) (callsIn_of_wp_marks hf hb trivial key)

theorem soundM_none {P : Program} {f : FuncId} {fn : Func} (hf : P.funcs[f]? = some fn) (hname : (fn.name == "runtime.NumGoroutine") = false) (hbody : fn.body.isSome = true) {em : Em} (h : ∀ y x, em.g y x = none) : SoundM P f em :=
  ⟨⟨fn, hf, hbody, hname⟩, fun _ _ _ _ _ _ _ _ _ y _ _ _ xs _ _ y' r hr => by rw [h] at hr; cases hr⟩
theorem soundE_none {P : Program} {f : FuncId} {fn : Func} (hf : P.funcs[f]? = some fn) (hname : (fn.name == "runtime.NumGoroutine") = false) (hbody : fn.body.isSome = true) {en : Ent} (h : ∀ x, en.g x = none) : SoundE P f en :=
  ⟨⟨fn, hf, hbody, hname⟩, fun _ _ _ _ _ _ xs _ _ r hr => by rw [h] at hr; cases hr⟩
end Go.Vi
