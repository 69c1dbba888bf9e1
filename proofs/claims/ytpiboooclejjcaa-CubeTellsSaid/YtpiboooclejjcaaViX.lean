/- Contracts of functions and closures out of what the interpreter computes. -/
import Derived.Test.YtpiboooclejjcaaViW
namespace Go.Vi
open Go.RowKit (Below)

section
variable {P : Program} {G : Gh} {w : World}

theorem ofP_rel {H : Heap} {g : Gs} (hg : g.G = G) : ∀ {p : PTy} {x : p.den} {v : Value}, ArgP P G w p x v → SRel0 P H g w (argSlots.ofP p x) v
  | .data _, _, _, h => by subst hg; exact h
  | .cptr _, _, _, h => by subst hg; exact h
  | .fnp _ _, _, _, h => by subst hg; exact h

theorem argsP_len : ∀ (ps : List PTy) (x : pdens ps) (vs : List Value), ArgsP P G w ps x vs → vs.length = ps.length
  | [], _, _, h => by subst h; rfl
  | [_], _, _, ⟨_, h, _⟩ => by subst h; rfl
  | _ :: q :: ps, x, _, ⟨_, vs', h, _, h2⟩ => by subst h; simp [argsP_len (q :: ps) x.2 vs' h2]
theorem argsD_len : ∀ (ps : List Ty) (x : dens ps) (vs : List Value), ArgsD G w ps x vs → vs.length = ps.length
  | [], _, _, h => by subst h; rfl
  | [_], _, _, ⟨_, h, _⟩ => by subst h; rfl
  | _ :: q :: ps, x, _, ⟨_, vs', h, _, h2⟩ => by subst h; simp [argsD_len (q :: ps) x.2 vs' h2]

theorem argSlots_rel {H : Heap} {g : Gs} (hg : g.G = G) : ∀ (ps : List PTy) (x : pdens ps) (vs : List Value), ArgsP P G w ps x vs → ∀ (i t : Nat) (u : S), lookO (argSlots ps x i) t = some u → ∃ v, i ≤ t ∧ vs[t - i]? = some v ∧ SRel0 P H g w u v
  | [], _, _, _, i, t, u, hl => by cases hl
  | [p], x, _, ⟨v, h1, h2⟩, i, t, u, hl => by
    subst h1
    simp only [argSlots] at hl
    rw [lookO_cons] at hl
    by_cases e : i = t
    · rw [if_pos e] at hl
      cases hl
      exact ⟨v, by omega, by simp [e], ofP_rel hg h2⟩
    · rw [if_neg e] at hl; cases hl
  | p :: q :: ps, x, _, ⟨v, vs', h1, h2, h3⟩, i, t, u, hl => by
    subst h1
    simp only [argSlots] at hl
    rw [lookO_cons] at hl
    by_cases e : i = t
    · rw [if_pos e] at hl
      cases hl
      exact ⟨v, by omega, by simp [e], ofP_rel hg h2⟩
    · rw [if_neg e] at hl
      obtain ⟨v', h4, h5, h6⟩ := argSlots_rel (H := H) hg (q :: ps) x.2 vs' h3 (i + 1) t u hl
      refine ⟨v', by omega, ?_, h6⟩
      rw [show t - i = (t - (i + 1)) + 1 by omega, List.getElem?_cons_succ]; exact h5

theorem datSlots_rel {H : Heap} {g : Gs} (hg : g.G = G) : ∀ (ps : List Ty) (x : dens ps) (vs : List Value), ArgsD G w ps x vs → ∀ (i t : Nat) (u : S), lookO (datSlots ps x i) t = some u → ∃ v, i ≤ t ∧ vs[t - i]? = some v ∧ SRel0 P H g w u v
  | [], _, _, _, i, t, u, hl => by cases hl
  | [p], x, _, ⟨v, h1, h2⟩, i, t, u, hl => by
    subst h1
    simp only [datSlots] at hl
    rw [lookO_cons] at hl
    by_cases e : i = t
    · rw [if_pos e] at hl
      cases hl
      exact ⟨v, by omega, by simp [e], by rw [← hg] at h2; exact h2⟩
    · rw [if_neg e] at hl; cases hl
  | p :: q :: ps, x, _, ⟨v, vs', h1, h2, h3⟩, i, t, u, hl => by
    subst h1
    simp only [datSlots] at hl
    rw [lookO_cons] at hl
    by_cases e : i = t
    · rw [if_pos e] at hl
      cases hl
      exact ⟨v, by omega, by simp [e], by rw [← hg] at h2; exact h2⟩
    · rw [if_neg e] at hl
      obtain ⟨v', h4, h5, h6⟩ := datSlots_rel (H := H) hg (q :: ps) x.2 vs' h3 (i + 1) t u hl
      refine ⟨v', by omega, ?_, h6⟩
      rw [show t - i = (t - (i + 1)) + 1 by omega, List.getElem?_cons_succ]; exact h5

/-- The begin of a call. -/
theorem Inv.start {slots : List (Nat × S)} {vs : List Value} {N : Nat} (hlen : vs.length ≤ N) (hs : ∀ g : Gs, g.G = G → ∀ t u, lookO slots t = some u → ∃ v, vs[t]? = some v ∧ SRel0 P [] g w u v) :
    ∃ g, Inv P N G w g { slots := slots, heap := [] } { tmps := vs.toArray ++ Array.replicate (N - vs.toArray.size) undef, defers := [] } w := by
  refine ⟨⟨G, fun _ _ => 0, fun _ => (undef, 0)⟩, fun t => ?_, by simp; omega, rfl, ⟨fun id n fz c hl => (by cases hl), fun T n hl => (by cases hl), fun id n fz c id' n' fz' c' hl => (by cases hl), fun T n T' n' hl => (by cases hl)⟩, Fwd.refl _ _⟩
  rw [look_lookO]
  cases hl : lookO slots t with
  | none => exact SRel.of0 (s := .poison) trivial
  | some u =>
    obtain ⟨v, h1, h2⟩ := hs ⟨G, fun _ _ => 0, fun _ => (undef, 0)⟩ rfl t u hl
    have ht : t < vs.length := (List.getElem?_eq_some_iff.1 h1).1
    have : (vs.toArray ++ Array.replicate (N - vs.toArray.size) undef).getD t undef = v := by
      rw [Array.getD_eq_getD_getElem?, Array.getElem?_append_left (by simpa using ht)]
      simp [h1]
    simp only [Option.getD_some]
    rw [this]
    exact SRel.of0 h2

/-- One result. -/
def resOne (tmps : Array Value) : ResultVar → Sem Value
  | .tmp t => pure (tmps.getD t undef)
  | .cell a t => do loadVar t (← asAddr (tmps.getD a undef))

theorem resSlot_rel {C : Ctx} (T : Types P C.tab) {N : Nat} {G0 : Gh} {w0 : World} {g : Gs} {s : St} {a : Act} (hinv : Inv P N G0 w0 g s a w) (rv : ResultVar) (hp : resSlot C s rv ≠ .poison) :
    ∃ v, (resOne a.tmps rv).run P w = .ok v w ∧ SRel P s.heap g w (resSlot C s rv) v := by
  cases rv with
  | tmp t => exact ⟨_, rfl, hinv.slots t⟩
  | cell ad t =>
    have hs := hinv.slots ad
    simp only [resSlot] at hp ⊢
    split
    · rename_i id n root hl
      rw [hl] at hs hp
      obtain ⟨m, fz0, c0, h1, h2, h3, e1⟩ := hs
      simp only at hp
      split
      · rename_i fz σ x hbox
        rw [hbox] at hp
        simp only at hp
        cases hb : tyIs C t σ && σ.beq root with
        | false => rw [hb] at hp; exact absurd rfl hp
        | true =>
          simp only [Bool.and_eq_true] at hb
          obtain ⟨te, hte, rfl⟩ := tyIs_spec hb.1
          obtain ⟨cs, et, k1, k2, k3, k4, k5⟩ := box_cells hinv hbox
          have hr : Rep g.G w te.ty x cs.toList := k2
          refine ⟨valOf te.ty cs.toList, ?_, SRel.dat ⟨_, hr, rfl⟩⟩
          have := run_loadVar T hte hr (b := g.ι id n) (o := 0) (w := w) (fun j c hj => by rw [Nat.zero_add]; exact k5 j c hj)
          simp only [resOne, e1, asAddr, pathOff, Sem.run_bind, Sem.run_pure, Result.andThen_ok, this]
      · rename_i fz k e x hbox
        rw [hbox] at hp
        simp only at hp
        cases hb : tyIs C t (.slc e) with
        | false => rw [hb] at hp; exact absurd rfl hp
        | true =>
          obtain ⟨te, hte, hty⟩ := tyIs_spec hb
          obtain ⟨cs, et, k1, ⟨v, k2, k2'⟩, k3, k4, k5⟩ := box_cells hinv hbox
          obtain ⟨et', tee, inf, q1, _⟩ := T.slc hte hty
          refine ⟨v, ?_, SRel.of0 k2'⟩
          have hc : w.cell? ⟨g.ι id n, 0, none⟩ = some v := k5 0 v (by rw [k2]; rfl)
          simp [resOne, e1, asAddr, pathOff, loadVar, isAgg, run_underlying q1, hc]
      · rename_i hn1 hn2
        exfalso
        apply hp
        split
        · exact absurd ‹_› (hn1 _ _ _)
        · exact absurd ‹_› (hn2 _ _ _ _)
        · rfl
    · rename_i hn
      exfalso
      apply hp
      split
      · exact absurd ‹_› (hn _ _ _)
      · rfl

theorem run_results {fn : Func} {tmps : Array Value} {vs : List Value} (h : Each (fun rv v => (resOne tmps rv).run P w = .ok v w) fn.results.toList vs) : (results fn tmps).run P w = .ok (tupVal vs) w := by
  have hl : ∀ (l : List ResultVar) (vs : List Value), Each (fun rv v => (resOne tmps rv).run P w = .ok v w) l vs → (l.mapM (resOne tmps)).run P w = .ok vs w := by
    intro l
    induction l with
    | nil => intro vs h; cases vs with
      | nil => rfl
      | cons _ _ => exact h.elim
    | cons x l ih => intro vs h; cases vs with
      | nil => exact h.elim
      | cons v vs =>
        rw [List.mapM_cons]
        simp only [Sem.run_bind, h.1, Result.andThen_ok, ih vs h.2, Sem.run_pure]
  have hm : (fn.results.mapM (resOne tmps)).run P w = .ok vs.toArray w := by
    rw [Array.mapM_eq_mapM_toList]
    simp only [Sem.run_map, hl _ _ h, Result.andThen_ok]
  have he : results fn tmps = (do let vs ← fn.results.mapM (resOne tmps); pure (if h : vs.size = 1 then vs[0] else .tuple vs)) := by
    unfold results
    congr 1
  rw [he]
  simp only [Sem.run_bind, hm, Result.andThen_ok, Sem.run_pure]
  congr 1
  match vs with
  | [] => rfl
  | [v] => rfl
  | v :: v' :: vs => simp [tupVal]

theorem asD_poison {τ : Ty} {x : τ.den} (h : asD τ .poison = some x) : False := by simp [asD] at h

/-- Results, one by one. -/
theorem asRs_rel {C : Ctx} (T : Types P C.tab) {N : Nat} {G0 : Gh} {w0 : World} {g : Gs} {s : St} {a : Act} (hinv : Inv P N G0 w0 g s a w) : ∀ (rs : List RTy) (l : List ResultVar) (r : rdens rs), asRs s rs (l.map (resSlot C s)) = some r →
    ∃ vs, Each (fun rv v => (resOne a.tmps rv).run P w = .ok v w) l vs ∧ ResPs g.G w w0.heap.size rs r vs := by
  have one : ∀ (rt : RTy) (rv : ResultVar) (r : rt.den), asR s rt (resSlot C s rv) = some r → ∃ v, (resOne a.tmps rv).run P w = .ok v w ∧ ResP g.G w w0.heap.size rt r v := by
    intro rt rv r hr
    cases rt with
    | data τ =>
      have hr' : asD τ (resSlot C s rv) = some r := hr
      obtain ⟨v, h1, h2⟩ := resSlot_rel T hinv rv (fun e => by rw [e] at hr'; exact asD_poison hr')
      exact ⟨v, h1, h2.asD hr'⟩
    | fresh e =>
      simp only [asR] at hr
      split at hr
      · rename_i tl htip
        obtain ⟨v, h1, h2⟩ := resSlot_rel T hinv rv (fun e => by rw [e] at hr; exact asD_poison hr)
        have hrep : RepV g.G w (.slc e) r v := h2.asD hr
        refine ⟨v, h1, hrep, ?_⟩
        generalize resSlot C s rv = u at *
        unfold hasTip at htip
        split at htip
        · have hv : v = .slice none 0 0 := h2
          exact ⟨none, 0, 0, hv, Nat.le_refl _, .inl rfl⟩
        · obtain ⟨_, ao, n, hv⟩ := h2
          exact ⟨ao, n, n, hv, Nat.le_refl _, .inl rfl⟩
        · rename_i T' n e' x
          cases castD_some (σ := .slc e') hr
          obtain ⟨_, m, hm, hle, hov⟩ := h2
          simp only [hm] at htip
          cases hb : Nat.beq m n with
          | false => rw [hb] at htip; cases htip
          | true =>
            have hov := hov (Nat.eq_of_beq_eq_true hb)
            obtain ⟨ao, k, c, q1, q2, q3⟩ := hinv.heap.tok T' m hm
            rw [hov] at q1 q3
            exact ⟨ao, k, c, q1, q2, q3⟩
        · cases htip
      · cases hr
  intro rs
  induction rs with
  | nil =>
    intro l r hr
    cases l with
    | nil => exact ⟨[], trivial, rfl⟩
    | cons _ _ => simp [asRs] at hr
  | cons rt rs ih =>
    intro l r hr
    cases rs with
    | nil =>
      cases l with
      | nil => simp [asRs] at hr
      | cons rv l =>
        cases l with
        | nil =>
          obtain ⟨v, h1, h2⟩ := one rt rv r hr
          exact ⟨[v], ⟨h1, trivial⟩, v, rfl, h2⟩
        | cons _ _ => simp [asRs] at hr
    | cons q rs =>
      cases l with
      | nil => simp [asRs] at hr
      | cons rv l =>
        simp only [List.map_cons, asRs] at hr
        rw [Option.bind_eq_some_iff] at hr
        obtain ⟨x, hx, hr⟩ := hr
        rw [Option.map_eq_some_iff] at hr
        obtain ⟨y, hy, rfl⟩ := hr
        obtain ⟨v, h1, h2⟩ := one rt rv x hx
        obtain ⟨vs, h3, h4⟩ := ih l y hy
        exact ⟨v :: vs, ⟨h1, h3⟩, v, vs, rfl, h2, h4⟩

theorem asDs_res {C : Ctx} (T : Types P C.tab) {N : Nat} {G0 : Gh} {w0 : World} {g : Gs} {s : St} {a : Act} (hinv : Inv P N G0 w0 g s a w) : ∀ (rs : List Ty) (l : List ResultVar) (r : dens rs), asDs rs (l.map (resSlot C s)) = some r →
    ∃ vs, Each (fun rv v => (resOne a.tmps rv).run P w = .ok v w) l vs ∧ ArgsD g.G w rs r vs := by
  have one : ∀ (τ : Ty) (rv : ResultVar) (r : τ.den), asD τ (resSlot C s rv) = some r → ∃ v, (resOne a.tmps rv).run P w = .ok v w ∧ RepV g.G w τ r v := by
    intro τ rv r hr'
    obtain ⟨v, h1, h2⟩ := resSlot_rel T hinv rv (fun e => by rw [e] at hr'; exact asD_poison hr')
    exact ⟨v, h1, h2.asD hr'⟩
  intro rs
  induction rs with
  | nil =>
    intro l r hr
    cases l with
    | nil => exact ⟨[], trivial, rfl⟩
    | cons _ _ => simp [asDs] at hr
  | cons rt rs ih =>
    intro l r hr
    cases rs with
    | nil =>
      cases l with
      | nil => simp [asDs] at hr
      | cons rv l =>
        cases l with
        | nil =>
          obtain ⟨v, h1, h2⟩ := one rt rv r hr
          exact ⟨[v], ⟨h1, trivial⟩, v, rfl, h2⟩
        | cons _ _ => simp [asDs] at hr
    | cons q rs =>
      cases l with
      | nil => simp [asDs] at hr
      | cons rv l =>
        simp only [List.map_cons, asDs] at hr
        rw [Option.bind_eq_some_iff] at hr
        obtain ⟨x, hx, hr⟩ := hr
        rw [Option.map_eq_some_iff] at hr
        obtain ⟨y, hy, rfl⟩ := hr
        obtain ⟨v, h1, h2⟩ := one rt rv x hx
        obtain ⟨vs, h3, h4⟩ := ih l y hy
        exact ⟨v :: vs, ⟨h1, h3⟩, v, vs, rfl, h2, h4⟩
end

theorem CtxOk.ntmps {P : Program} {C : Ctx} (h : CtxOk P C) (N : Nat) : CtxOk P { C with ntmps := N } := ⟨h.types, h.fts, h.fns, h.cls, h.mixed⟩

/-- A function's contract, from slots that hold the arguments. -/
theorem calls_of_runS {P : Program} {C : Ctx} (hC : CtxOk P C) {f : FuncId} {fn : Func} (hf : P.funcs[f]? = some fn) {code : Code} (hb : fn.body = some code) {rs : List RTy} {n : Nat} {slots : List (Nat × S)} {vs : List Value} {G : Gh} {w : World} (hlen : vs.length ≤ fn.ntmps)
    (hs : ∀ g : Gs, g.G = G → ∀ t u, lookO slots t = some u → ∃ v, vs[t]? = some v ∧ SRel0 P [] g w u v) {r : rdens rs} (hrun : runBody { C with ntmps := fn.ntmps } n code fn.results.toList rs { slots := slots, heap := [] } = some r) :
    Calls P f vs.toArray w fun e w' => ∃ us G', e = .returned (tupVal us) ∧ Fwd G w G' w' ∧ ResPs G' w' w.heap.size rs r us := by
  obtain ⟨g, hinv⟩ := Inv.start (P := P) (G := G) (w := w) (slots := slots) (vs := vs) (N := fn.ntmps) hlen hs
  have hC' := hC.ntmps fn.ntmps
  refine calls_of_wp hf hb (exec_sound hC' code (r := r) hinv hrun fun e s' g' a' w' hi hk => ?_)
  have fin : asRs s' rs (fn.results.toList.map (resSlot { C with ntmps := fn.ntmps } s')) = some r → a'.defers = [] ∧ ∃ v, (results fn a'.tmps).run P w' = .ok v w' ∧ ∃ us G', Ending.returned v = .returned (tupVal us) ∧ Fwd G w G' w' ∧ ResPs G' w' w.heap.size rs r us := by
    intro hk
    obtain ⟨vs, h1, h2⟩ := asRs_rel (C := { C with ntmps := fn.ntmps }) hC.types hi rs fn.results.toList r hk
    exact ⟨hi.defers, _, run_results h1, vs, g'.G, rfl, hi.fwd, h2⟩
  cases e with
  | normal => exact fin hk
  | ret => exact fin hk
  | exit id => cases hk

/-- A function's contract. -/
theorem soundE_of_run {P : Program} {C : Ctx} (hC : CtxOk P C) {f : FuncId} {fn : Func} (hf : P.funcs[f]? = some fn) (hname : (fn.name == "runtime.NumGoroutine") = false) (hbody : fn.body.isSome = true) {en : Ent} {n : Nat}
    (h : ∀ x r, en.g x = some r → run C n fn en.ps en.rs x = some r) : SoundE P f en := by
  obtain ⟨code, hb⟩ := Option.isSome_iff_exists.1 hbody
  refine ⟨⟨fn, hf, hbody, hname⟩, fun G w xs vs hxs r hr => ?_⟩
  have hrun := h xs r hr
  unfold run at hrun
  rw [hb] at hrun
  simp only at hrun
  cases hle : Nat.ble en.ps.length fn.ntmps with
  | false => rw [hle] at hrun; cases hrun
  | true =>
    rw [hle, cond_true] at hrun
    have hlen := argsP_len en.ps xs vs hxs
    exact calls_of_runS hC hf hb (by rw [hlen]; exact Nat.le_of_ble_eq_true hle) (fun g hg t u hl => by
      obtain ⟨v, _, h2, h3⟩ := argSlots_rel (H := []) hg en.ps xs vs hxs 0 t u hl
      exact ⟨v, h2, h3⟩) hrun

/-- The contract of a function of one slice that asks whether it is nil. -/
theorem soundE_of_nil {P : Program} {C : Ctx} (hC : CtxOk P C) {f : FuncId} {fn : Func} (hf : P.funcs[f]? = some fn) (hname : (fn.name == "runtime.NumGoroutine") = false) (hbody : fn.body.isSome = true) (hle : Nat.ble 1 fn.ntmps = true)
    {e : Ty} {rs : List RTy} {g : List e.den → Option (rdens rs)} {n : Nat}
    (h0 : ∀ r, g [] = some r → runS C n fn [(0, .nil)] rs = some r) (h1 : ∀ x r, g x = some r → runS C n fn [(0, .lst .nn e x)] rs = some r) : SoundE P f ⟨[.data (.slc e)], rs, g⟩ := by
  obtain ⟨code, hb⟩ := Option.isSome_iff_exists.1 hbody
  refine ⟨⟨fn, hf, hbody, hname⟩, fun G w xs vs hxs r hr => ?_⟩
  obtain ⟨v, rfl, hv⟩ := hxs
  have hv : RepV G w (.slc e) xs v := hv
  obtain ⟨cs, hcs, hvv⟩ := id hv
  obtain ⟨ao, cap, rfl, hle2, hrest⟩ := hcs
  have hvv : v = .slice ao xs.length cap := hvv
  unfold runS at h0 h1
  rw [hb] at h0 h1
  simp only at h0 h1
  cases ao with
  | none =>
    have hrest : cap = 0 := hrest
    subst hrest
    have : xs = [] := List.length_eq_zero_iff.1 (by omega)
    subst this
    refine calls_of_runS hC hf hb (slots := [(0, .nil)]) (by simpa using Nat.le_of_ble_eq_true hle) (fun g hg t u hl => ?_) (h0 r hr)
    rw [lookO_cons] at hl
    by_cases ht : 0 = t
    · rw [if_pos ht] at hl
      cases hl
      exact ⟨v, by rw [← ht]; rfl, hvv⟩
    · rw [if_neg ht] at hl; cases hl
  | some ad =>
    refine calls_of_runS hC hf hb (slots := [(0, .lst .nn e xs)]) (by simpa using Nat.le_of_ble_eq_true hle) (fun g hg t u hl => ?_) (h1 xs r hr)
    rw [lookO_cons] at hl
    by_cases ht : 0 = t
    · rw [if_pos ht] at hl
      cases hl
      subst hg
      exact ⟨v, by rw [← ht]; rfl, hv, ad, _, _, hvv⟩
    · rw [if_neg ht] at hl; cases hl

/-- A closure's contract. -/
theorem soundC_of_run {P : Program} {C : Ctx} (hC : CtxOk P C) {f : FuncId} {fn : Func} (hf : P.funcs[f]? = some fn) (hname : (fn.name == "runtime.NumGoroutine") = false) (hbody : fn.body.isSome = true) {cl : Cl} {n : Nat}
    (h : ∀ x c r, cl.g x c = some r → runC C n fn cl.ps cl.caps cl.rs x c = some r) : SoundC P f cl := by
  obtain ⟨code, hb⟩ := Option.isSome_iff_exists.1 hbody
  refine ⟨⟨fn, hf, hbody, hname⟩, fun G w xs vs cs ws hxs hcs r hr => ?_⟩
  have hrun := h xs cs r hr
  unfold runC at hrun
  rw [hb] at hrun
  simp only at hrun
  cases hle : Nat.ble (cl.ps.length + cl.caps.length) fn.ntmps with
  | false => rw [hle] at hrun; cases hrun
  | true =>
    rw [hle, cond_true] at hrun
    have hlen1 := argsD_len cl.ps xs vs hxs
    have hlen2 := argsP_len cl.caps cs ws hcs
    obtain ⟨g, hinv⟩ := Inv.start (P := P) (G := G) (w := w) (slots := datSlots cl.ps xs 0 ++ argSlots cl.caps cs cl.ps.length) (vs := vs ++ ws) (N := fn.ntmps) (by rw [List.length_append, hlen1, hlen2]; exact Nat.le_of_ble_eq_true hle) (fun g hg t u hl => by
      rw [lookO_append] at hl
      cases hl1 : lookO (datSlots cl.ps xs 0) t with
      | some u' =>
        rw [hl1] at hl
        cases hl
        obtain ⟨v, _, h2, h3⟩ := datSlots_rel (H := []) hg cl.ps xs vs hxs 0 t _ hl1
        have ht : t < vs.length := (List.getElem?_eq_some_iff.1 h2).1
        exact ⟨v, by rw [List.getElem?_append_left ht]; exact h2, h3⟩
      | none =>
        rw [hl1, Option.none_or] at hl
        obtain ⟨v, hle', h2, h3⟩ := argSlots_rel (H := []) hg cl.caps cs ws hcs cl.ps.length t u hl
        exact ⟨v, by rw [List.getElem?_append_right (by omega), hlen1]; exact h2, h3⟩)
    have hC' := hC.ntmps fn.ntmps
    have hargs : vs.toArray ++ ws.toArray = (vs ++ ws).toArray := by simp
    rw [hargs]
    refine calls_of_wp hf hb (exec_sound hC' code (r := r) hinv hrun fun e s' g' a' w' hi hk => ?_)
    have fin : asDs cl.rs (fn.results.toList.map (resSlot { C with ntmps := fn.ntmps } s')) = some r → a'.defers = [] ∧ ∃ v, (results fn a'.tmps).run P w' = .ok v w' ∧ ∃ v' G', Ending.returned v = .returned v' ∧ Fwd G w G' w' ∧ ResD G' w' cl.rs r v' := by
      intro hk
      obtain ⟨vs, h1, h2⟩ := asDs_res (C := { C with ntmps := fn.ntmps }) hC.types hi cl.rs fn.results.toList r hk
      exact ⟨hi.defers, _, run_results h1, _, g'.G, rfl, hi.fwd, vs, h2, rfl⟩
    cases e with
    | normal => exact fin hk
    | ret => exact fin hk
    | exit id => cases hk
end Go.Vi
