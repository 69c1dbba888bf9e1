/- A loop over a function: what the interpreter says it does. -/
import Derived.Test.YtagpigbfbhdoiaaViWE
namespace Go.Vi
open Go.RowKit (Below)

theorem Own.above_mono {t t' : Nat} (h : t ≤ t') : ∀ {o : Own}, o.above t' → o.above t
  | .stays, _ => trivial
  | .mine _, k => Nat.lt_of_le_of_lt h k
  | .room _ _, k => Nat.lt_of_le_of_lt h k
theorem Own.above_offs {m t : Nat} (h : m ≤ t) : ∀ {o : Own}, o.above t → o.offs m
  | .stays, _ => trivial
  | .mine j, k => by have k : t < j := k; show j ≠ m; omega
  | .room j _, k => by have k : t < j := k; show j ≠ m; omega

/-- Other slots, each of which holds. -/
theorem Inv.onSlots {P : Program} {N : Nat} {F : Fr} {g : Gs} {s : St} {a : Act} {w : World} (h : Inv P N F g s a w) {base : List (Nat × S)} (hb : ∀ t u, lookO base t = some u → SRel P s.heap g w u (a.tmps.getD t undef)) :
    Inv P N F g { slots := base, heap := s.heap } a w := by
  refine ⟨fun t => ?_, h.size, h.defers, h.heap, h.stp, h.lv, h.mt, h.hB, h.objs, h.pin, h.yl, h.hp, h.hrd, h.lv0⟩
  show SRel P s.heap g w (look .poison base t) _
  rw [look_lookO]
  cases hl : lookO base t with
  | none => exact SRel.of0 (s := .poison) trivial
  | some u => exact hb t u hl

theorem sameBase {P : Program} {N : Nat} {F : Fr} {g : Gs} {s : St} {a : Act} {w : World} (h : Inv P N F g s a w) {base : List (Nat × S)} (hs : sameSlots s base = true) {t id n : Nat} {root : Ty} {π : List Step} (ht : (t, S.ptr id n root π) ∈ base) :
    SRel P s.heap g w (.ptr id n root π) (a.tmps.getD t undef) := by
  obtain ⟨rfl, root', hu⟩ := samePtr_spec (sameSlots_spec hs t _ ht)
  have := h.slots t
  rw [hu] at this
  obtain ⟨m, fz, c, h1, h2, h3, h4⟩ := this
  exact ⟨m, fz, c, h1, h2, trivial, h4⟩

theorem rangeFunc_sound {R : Type} {P : Program} {N : Nat} {F : Fr} {em : EmR R} {τ : Nat} {J : R → Gh → World → Prop} (hE : EmOk P F τ em J) {es : List Ty} {f : Operand} {ps : Array Tmp} {assign body : Code} {ks : List Nat × List Nat} {base : List (Nat × S)}
    {bodyK : dens es → St → (Ex → St → Option R) → Option R} {K : Ex → St → Option R} {Q : Exit → Act → World → Prop}
    (hbase : ∀ t u, (t, u) ∈ base → plainS u = true ∨ ∃ id n root π, u = .ptr id n root π) (hlt : ∀ p ∈ ps.toList, p < N) (hnd : nodup ps.toList = true) (hkeys : ∀ p ∈ ps.toList, p ∉ base.map (·.1))
    (hround : ∀ (x : dens es) (F1 : Fr) (l : Nat) (rc : Loop) (O : List (Nat × Obj)) (g : Gs) (h : Heap) (lps : List (Nat × S)) (tm : Array Value) (W : World) (K' : Ex → St → Option R) (r' : R) (Q' : Exit → Act → World → Prop),
      F1.rd = some l → F1.objs = (l, .loop rc) :: O → (∀ p ∈ O, p.1 ≠ l) → F1.pins = ptrSlots base → EmOk P F1 τ em J → rc.state = .ready →
      Inv P N F1 g { slots := lps ++ base, heap := h } { tmps := tm, defers := [] } W → J r' g.G W → parSlots ps.toList es x = some lps → bodyK x { slots := base, heap := h } K' = some r' →
      (∀ e s' g' a' w' r'', Inv P N { F1 with objs := (l, .loop { rc with state := .busy }) :: O } g' s' a' w' → J r'' g'.G w' → K' e s' = some r'' → Q' (toExit e) a' w') →
      assign.wpIn (wr (some l)) 0 P (Exit.then (fun a₁ w₁ => ∃ w₂, (Instr.beginRound l).run P w₁ = .ok () w₂ ∧ body.wpIn (wr (some l)) 0 P Q' a₁ w₂) (fun _ _ _ => False)) { tmps := tm, defers := [] } W)
    (hps : ∀ x s K r, bodyK x s K = some r → ∃ lps, parSlots ps.toList es x = some lps)
    {xs : List (dens es)} {h0 : Heap} {g : Gs} {a : Act} {w : World} {r : R} (hinv : Inv P N F g { slots := base, heap := h0 } a w) (hJ : J r g.G w) (hf : SeqRel P g.G w es xs (a.eval f)) (hit : iterS bodyK base ks K xs h0 = some r)
    (hK : ∀ e s' g' a' w' r', Inv P N F g' s' a' w' → J r' g'.G w' → K e s' = some r' → Q (toExit e) a' w') : (Code.rangeFunc f ps assign body).wpIn (wr F.rd) 0 P Q a w := by
  refine wpIn_rangeFunc fun fn _ => ?_
  obtain ⟨l, mk, d0, W1, G1, henter, hrec1, hGl1, hlt1, hfwd, hinv1⟩ := hinv.enter fn ps assign body
  obtain ⟨gf, first, caps, hv, hcall, hrun⟩ := hf
  obtain ⟨rec, hrec⟩ : ∃ rec : LoopState → Option Code → Loop, rec = fun st pe => { state := st, pending := pe, fn, tmps := a.tmps, params := ps, assign, body, defers := d0 } := ⟨_, rfl⟩
  have hseq := hrun F.t G1 W1 hfwd.adv hinv1.lv
  have hnotl : ∀ l' o, (l', o) ∈ F.objs → l' ≠ l := by
    intro l' o h e
    have := (Array.getElem?_eq_some_iff.1 (hinv.objs l' o h).1).1
    omega
  have hm := hinv.mt
  have hupl : ∀ {G : Gh}, G l = .mine F.m → ¬ Own.upto τ (G l) := by
    intro G h hu
    rw [h] at hu
    have hu : F.m ≤ τ := hu
    have := hE.lt
    omega
  refine ⟨l, mk, W1, { target := .fn (.func gf) caps, args := first ++ #[.func (.yield l) #[] #[]] }, W1, gf, first ++ #[.func (.yield l) #[] #[]] ++ caps, W1, henter, ?_, fun _ _ => trivial, ?_, fun h => (by cases h), callsIn_wr ?_⟩
  · simp only [rangeCall, resolve, Deferred.ofValue, hv, Sem.run_bind, Sem.run_pure, Result.andThen_ok]
    congr 2
    simp [Act.eval]
  · have := run_callFunc hcall (first ++ #[.func (.yield l) #[] #[]] ++ caps) W1
    simpa only [invoke] using this
  · refine (hseq l (JIn P N F J { a with defers := mk ++ a.defers } l rec base (fun (xs : List (dens es)) h => iterS bodyK base ks K xs h) K) (JIn.abide hE.ab hE.lt hm hinv.lv0) ?_ ?_).mono ?_
    · -- a round
      intro es' x r rout hcons G W vs t hj hlv hle hargs
      have hcons : (castDs es' es x).map (· :: r) = some rout := hcons
      obtain ⟨x', hx', rfl⟩ := Option.map_eq_some_iff.1 hcons
      cases castDs_some hx'
      rcases hj with ⟨t0, gj, h, rj, rfl, ht0, hi, hjr, hiter, hrl, hGl⟩ | ⟨hx, _⟩
      case inr => cases hx
      simp only [iterS] at hiter
      obtain ⟨lps, hlps⟩ := hps _ _ _ _ hiter
      obtain ⟨hlen, tm', htm, hsz, hout, hin⟩ := parSlots_rel ps.toList es x' lps vs a.tmps hlps hargs hnd (fun p hp => by rw [hinv.size]; exact hlt p hp)
      obtain ⟨OM, om1, om2, om3⟩ := hi.defers.lt
      have hOne : ∀ p ∈ OM ++ F.objs, p.1 ≠ l := by
        intro p hp
        obtain ⟨l', o⟩ := p
        rcases List.mem_append.1 hp with hp | hp
        · intro e
          have h1 := (om2 l' o hp).1
          have h2 := om1 _ hp
          simp only at h2 e
          rw [h2, e, hrl] at h1
          cases h1
        · exact hnotl l' o hp
      let F1 : Fr := { m := F.m, t := t, B := F.B, G := gj.G, w := W, p := fun o => F.p o ∨ Own.above F.t o, rd := some l, objs := (l, .loop (rec .ready none)) :: (OM ++ F.objs), pins := ptrSlots base, pv := fun t => a.tmps.getD t undef, yl := F.yl }
      have hE1 : EmOk P F1 τ em J := by
        refine ⟨hE.lt, hE.ab, ?_⟩
        rcases hE.y with h | ⟨h1, h2⟩
        · exact .inl h
        · exact .inr ⟨fun o ho => ho.elim (h1 o) (Own.above_mono (Nat.le_trans (Nat.le_of_lt hE.lt) hm)), h2⟩
      have hi1 : Inv P N F1 gj { slots := lps ++ base, heap := h } { tmps := tm', defers := [] } W := by
        refine ⟨fun t' => ?_, by rw [hsz]; exact hi.size, Marks.nil _ _ _, ⟨hi.heap.box, hi.heap.tok, hi.heap.apart, hi.heap.rooms⟩, Kp.refl _ _ _, hlv, Nat.le_trans hm hle, hi.hB, fun l' o ho => ?_, fun t' ht' => ?_, hi.yl, fun o ho => ho.elim (hi.hp o) (Own.above_offs hm), fun l' hl' => ?_, hlv⟩
        · show SRel P h gj W (look .poison (lps ++ base) t') (tm'.getD t' undef)
          rw [look_lookO, lookO_append]
          by_cases hp : t' ∈ ps.toList
          · obtain ⟨u, hu, hr⟩ := hin t' hp
            rw [hu]
            exact hr P h gj rfl
          · obtain ⟨e1, e2⟩ := hout t' hp
            rw [e1, e2, Option.none_or]
            have := hi.slots t'
            rw [show (St.mk base h).slots = base from rfl, look_lookO] at this
            exact this
        · rcases List.mem_cons.1 ho with ho | ho
          · cases ho; exact ⟨hrl, rfl, hGl⟩
          · rcases List.mem_append.1 ho with ho | ho
            · exact om2 l' o ho
            · exact hi.objs l' o ho
        · exact (hout t' (fun hp => hkeys t' hp (ptrSlots_key ht'))).1
        · cases hl'
          exact ⟨_, List.mem_cons_self⟩
      have hyield := run_yield (P := P) (args := vs.toArray) hrl (by rw [hrec]; simpa using hlen.symm)
      have hfold : (ps.zip vs.toArray).foldl (fun tmps (t, a) => tmps.setIfInBounds t a) a.tmps = tm' := by
        rw [← Array.foldl_toList, Array.toList_zip]
        exact htm
      have hyield' : (Instr.yield l vs.toArray).run P W = .ok (.round l fn tm' assign body) W := by
        rw [hyield, hrec]
        simp only [hfold]
      refine ⟨fn, tm', assign, body, hyield', roundIn_of_wpIn trivial (hround x' F1 l (rec .ready none) (OM ++ F.objs) gj h lps tm' W _ rj _ rfl rfl hOne rfl hE1 (by rw [hrec]) hi1 hjr hlps hiter ?_)⟩
      -- behind the round
      intro e s' g' a' w' r'' hi2 hj2 hk
      have hl2 := hi2.objs l _ List.mem_cons_self
      cases hs : sameSlots s' base with
      | false => rw [hs] at hk; cases hk
      | true =>
        rw [hs, cond_true] at hk
        have stepA : ∀ (st : LoopState) (jump : Option Code), ∀ W4, W4 = w'.putObj l (.loop (rec st jump)) →
            W4.heap[l]? = some (.loop (rec st jump)) ∧ Inv P N { F with t := t } g' { slots := base, heap := s'.heap } { a with defers := mk ++ a.defers } W4 ∧ J r'' g'.G W4 ∧ Kp (Own.above F.t) gj.G W g'.G W4 ∧ Lv t g'.G W4 := by
          intro st jump W4 hW4
          have hsame : W4.heap[l]? = some (.loop (rec st jump)) := by
            rw [hW4]; exact World.putObj_heap_same (Array.getElem?_eq_some_iff.1 hl2.1).1
          have hi3 := Inv.putObj (O := []) (O' := (l, .loop (rec st jump)) :: (OM ++ F.objs)) (ds := []) (o' := .loop (rec st jump)) hi2 hl2.1 rfl hl2.2.2 (Marks.nil _ _ _) (fun l' o ho => by
            rcases List.mem_cons.1 ho with ho | ho
            · cases ho
              exact ⟨by rw [← hW4]; exact hsame, rfl, hl2.2.2⟩
            · have hne := hOne _ ho
              obtain ⟨q1, q2, q3⟩ := hi2.objs l' o (List.mem_cons_of_mem _ ho)
              exact ⟨by rw [World.putObj_heap_other hne]; exact q1, q2, q3⟩) (fun l' hl' => by cases hl'; exact ⟨_, List.mem_cons_self⟩)
          rw [← hW4] at hi3
          have hadv : Adv gj.G W g'.G W4 := hi3.stp.adv
          refine ⟨hsame, ?_, ?_, hi3.stp.mono fun o ho => .inr ho, hi3.lv⟩
          · refine ⟨fun t' => ?_, hi.size, om3 g'.G W4 fun l' o ho => hi3.objs l' o (List.mem_cons_of_mem _ (List.mem_append_left _ ho)), ⟨hi3.heap.box, hi3.heap.tok, hi3.heap.apart, hi3.heap.rooms⟩, hi.stp.trans (hi3.stp.mono fun o ho => .inl ho), hi3.lv, Nat.le_trans hm hle,
              Nat.le_trans hi.hB hi3.stp.size, fun l' o ho => hi3.objs l' o (List.mem_cons_of_mem _ (List.mem_append_right _ ho)), hi.pin, hi3.yl, hi.hp, hi.hrd, hinv.lv0.mono hle⟩
            show SRel P s'.heap g' W4 (look .poison base t') (a.tmps.getD t' undef)
            rw [look_lookO]
            cases hl : lookO base t' with
            | none => exact SRel.of0 (s := .poison) trivial
            | some u =>
              have hmem := lookO_mem hl
              have hold := hi.slots t'
              rw [show (St.mk base h).slots = base from rfl, look_lookO, hl] at hold
              rcases hbase t' u hmem with hp | ⟨id, n, root, π, rfl⟩
              · exact SRel.plain hp hold hadv (hi3.yl.trans hi.yl.symm)
              · have := sameBase hi3 hs hmem
                have hpin : a'.tmps.getD t' undef = a.tmps.getD t' undef := hi3.pin t' (ptrSlots_mem hmem)
                have this : SRel P s'.heap g' W4 (.ptr id n root π) (a'.tmps.getD t' undef) := this
                rw [hpin] at this
                exact this
          · rw [hW4]
            exact hE.ab _ _ _ _ _ hj2 (Kp.putObj hl2.1 rfl (hupl hl2.2.2))
        have hR : ∀ (b : Bool) (jump : Option Code) (st : LoopState), jump.isNone = b → st = (if jump.isNone = true then .ready else .done) →
            (Instr.endRound l jump).run P w' = .ok (.bool b) (w'.putObj l (.loop (rec st jump))) := by
          intro b jump st hb hst
          have := run_endRound (P := P) jump hl2.1
          rw [this, hst, hb]
          subst hrec
          rfl
        cases e with
        | normal =>
          simp only at hk
          obtain ⟨a1, a2, a3, a4, a5⟩ := stepA .ready none _ rfl
          refine ⟨_, _, hR true none .ready rfl rfl, true, g'.G, rfl, a4, a5, fun _ => .inl ?_, fun h => by cases h⟩
          split at hk
          · rename_i s'' hkeep
            cases hs2 : sameSlots s'' base with
            | false => rw [hs2] at hk; cases hk
            | true =>
              rw [hs2, cond_true] at hk
              obtain ⟨g5, hg5, hi5⟩ := a2.keep hkeep
              refine ⟨t, g5, s''.heap, r'', hg5, hle, hi5.onSlots fun t' u hl => ?_, a3, hk, a1, hl2.2.2⟩
              have hmem := lookO_mem hl
              rcases hbase t' u hmem with hp | ⟨id, n, root, π, rfl⟩
              · have hold := a2.slots t'
                rw [show (St.mk base s'.heap).slots = base from rfl, look_lookO, hl] at hold
                exact SRel.plain hp hold (by rw [hg5]; exact Adv.refl _ _) (hi5.yl.trans a2.yl.symm)
              · exact sameBase hi5 hs2 hmem
          · cases hk
        | ret =>
          simp only at hk
          obtain ⟨a1, a2, a3, a4, a5⟩ := stepA .done (some .ret) _ rfl
          refine ⟨_, _, hR false (some .ret) .done rfl rfl, false, g'.G, rfl, a4, a5, fun h => (by cases h), fun _ rn hrn => ?_⟩
          have hrn : rn = [] := List.isEmpty_iff.1 hrn
          exact .inr ⟨hrn, t, g', s'.heap, r'', .ret, rfl, hle, a2, a3, hk, by simp, a1, hl2.2.2⟩
        | exit id =>
          simp only at hk
          obtain ⟨a1, a2, a3, a4, a5⟩ := stepA .done (some (.exit id)) _ rfl
          refine ⟨_, _, hR false (some (.exit id)) .done rfl rfl, false, g'.G, rfl, a4, a5, fun h => (by cases h), fun _ rn hrn => ?_⟩
          have hrn : rn = [] := List.isEmpty_iff.1 hrn
          exact .inr ⟨hrn, t, g', s'.heap, r'', .exit id, rfl, hle, a2, a3, hk, by simp, a1, hl2.2.2⟩
    · -- the begin
      refine .inl ⟨F.t, ⟨G1, g.ι, g.ov, g.yl⟩, h0, r, rfl, Nat.le_refl _, hinv1, ?_, hit, by rw [hrec1, hrec], hGl1⟩
      exact hE.ab _ _ _ _ _ hJ (hfwd.kp _)
    · -- behind the loop
      rintro e w' ⟨v, G', rfl, hjn⟩
      show rangePost (wr F.rd) 0 P l Q _ (.returned v) w'
      have fin : ∀ (t : Nat) (g2 : Gs) (h2 : Heap) (r2 : R) (e : Ex) (st : LoopState) (jump : Option Code), F.t ≤ t → Inv P N { F with t := t } g2 { slots := base, heap := h2 } { a with defers := mk ++ a.defers } w' → J r2 g2.G w' → K e { slots := base, heap := h2 } = some r2 →
          w'.heap[l]? = some (.loop (rec st jump)) → g2.G l = .mine F.m → Q (toExit e) { a with defers := mk ++ a.defers } (w'.putObj l (.loop { rec st jump with state := .exhausted })) := by
        intro t g2 h2 r2 e st jump ht hi2 hj2 hk hrl hGl
        have hi3 := hi2.lower hm hinv.lv0
        have hlow : (g2.G.low F.t) l = .mine F.m := by
          show Own.low F.t (g2.G l) = _
          rw [hGl]; exact Own.low_of hm
        obtain ⟨OM, om1, om2, om3⟩ := hi3.defers.lt
        have hi4 := Inv.putObj (O := []) (O' := F.objs) (ds := mk ++ a.defers) (o' := .loop { rec st jump with state := .exhausted }) hi3 hrl rfl hlow (om3 _ _ fun l' o ho => by
          obtain ⟨q1, q2, q3⟩ := om2 l' o ho
          have hne : l' ≠ l := by
            intro e0
            have h2 := om1 _ ho
            simp only at h2
            rw [h2, e0, hrl] at q1
            cases q1
          exact ⟨by rw [World.putObj_heap_other hne]; exact q1, q2, q3⟩) (fun l' o ho => by
          obtain ⟨q1, q2, q3⟩ := hi3.objs l' o ho
          exact ⟨by rw [World.putObj_heap_other (hnotl l' o ho)]; exact q1, q2, q3⟩) hinv.hrd
        refine hK e _ _ _ _ r2 hi4 ?_ hk
        have hj3 := hE.ab _ _ _ _ _ hj2 ((Gh.low_kp F.t g2.G w').mono fun o ho => Own.upto_mono (Nat.le_trans (Nat.le_of_lt hE.lt) hm) ho)
        exact hE.ab _ _ _ _ _ hj3 (Kp.putObj hrl rfl (hupl hlow))
      rcases hjn with ⟨t, g2, h2, r2, rfl, ht, hi2, hj2, hit2, hrl, hGl⟩ | ⟨_, t, g2, h2, r2, e, rfl, ht, hi2, hj2, hk, hne, hrl, hGl⟩
      · simp only [iterS] at hit2
        have hend : (Instr.endLoop l).run P w' = .ok none (w'.putObj l (.loop { rec .ready none with state := .exhausted })) :=
          (run_endLoop (P := P) hrl (by rw [hrec]; simp)).trans (by subst hrec; rfl)
        exact ⟨none, _, hend, fin t g2 h2 r2 .normal .ready none ht hi2 hj2 hit2 hrl hGl⟩
      · have hend : (Instr.endLoop l).run P w' = .ok (some (exCode e)) (w'.putObj l (.loop { rec .done (some (exCode e)) with state := .exhausted })) :=
          (run_endLoop (P := P) hrl (by rw [hrec]; simp)).trans (by subst hrec; rfl)
        refine ⟨some (exCode e), _, hend, ?_⟩
        have hq := fin t g2 h2 r2 e .done _ ht hi2 hj2 hk hrl hGl
        cases e with
        | normal => exact absurd rfl hne
        | exit id => exact wpIn_exit hq
        | ret => exact wpIn_ret hq
end Go.Vi
