/- Calls whose result is a slice of its own; append. -/
import Derived.Test.YtagpigbfbhdoiaaViN
namespace Go.Vi
open Go.RowKit (Below)

def setOv (g : Gs) (T : Nat) (p : Value × Nat) : Gs := ⟨g.G, g.ι, fun T' => if T' = T then p else g.ov T', g.yl⟩

/-- A right of a name may follow. -/
theorem ext_tok {H : Heap} {g : Gs} {s : St} (hs : s.heap = H) {T n : Nat} (hn : nextTok s T = some n) (G' : Gh) (p : Value × Nat) : Ext H g ((T, .tok n) :: H) ⟨G', g.ι, fun T' => if T' = T then p else g.ov T', g.yl⟩ := by
  subst hs
  refine ⟨fun id m fz c hl => ?_, fun T' m hl => ?_, rfl⟩
  · have hne : T ≠ id := by
      intro e
      subst e
      simp [nextTok, hl] at hn
    exact ⟨m, fz, c, by rw [lookO_cons, if_neg hne]; exact hl, Nat.le_refl _, fun _ _ => rfl⟩
  · by_cases e : T = T'
    · subst e
      have hnm : n = m + 1 := by simp [nextTok, hl] at hn; omega
      exact ⟨n, by rw [lookO_cons, if_pos rfl], by omega, fun h => by omega⟩
    · exact ⟨m, by rw [lookO_cons, if_neg e]; exact hl, Nat.le_refl _, fun _ => by simp only; rw [if_neg (Ne.symm e)]⟩

theorem roomOf_lt {v : Value} {k : Nat} {b : Nat} (h : roomOf (v, k) = some b) : ∃ a m c, v = .slice (some a) m c ∧ m < c ∧ a.block = b := by
  unfold roomOf at h
  split at h
  · rename_i a m c hv
    simp only at hv
    split at h
    · cases h; exact ⟨a, m, c, hv, by assumption, rfl⟩
    · cases h
  · cases h

section
variable {P : Program} {N : Nat} {F : Fr} {g : Gs} {s : St} {a : Act} {w : World} (hinv : Inv P N F g s a w) {o : Oper} (hd : dstLt N F o.dst)
include hinv hd

/-- A call's results, one of which has the right to its room. -/
theorem Inv.callTok {G' : Gh} {w' : World} (hf : Fwd g.G w G' w') (hl : Lv F.t G' w') {T n : Nat} (hn : nextTok s T = some n) {u : S} {v : Value} {x : Value} {e : Ty} (hroom : Room G' w' F.m w.heap.size e x)
    (hv : ∀ H g', g'.G = G' → lookO H T = some (.tok n) → g'.ov T = (x, e.size) → SRel P H g' w' u v) {rd : List Nat} :
    ∃ g', Inv P N F g' (s.app o.dst { val := u, hw := [(T, .tok n)], rd := rd }) (a.put o.dst v) w' := by
  obtain ⟨h1, h2⟩ := HeapRel.fwd hinv hf
  have hx : Ext s.heap g ((T, .tok n) :: s.heap) ⟨G', g.ι, fun T' => if T' = T then (x, e.size) else g.ov T', g.yl⟩ := ext_tok rfl hn G' (x, e.size)
  have hlt := hinv.heap.lt
  refine ⟨⟨G', g.ι, fun T' => if T' = T then (x, e.size) else g.ov T', g.yl⟩, hinv.app (e := { val := u, hw := [(T, .tok n)], rd := rd }) hd hx ?_ ?_ (hf.stp fun _ => hl)⟩
  · exact hv _ _ rfl (by simp [lookO_cons]) (by simp)
  · refine h1.addTok (g' := ⟨G', g.ι, fun T' => if T' = T then (x, e.size) else g.ov T', g.yl⟩) (roomOf (x, e.size)) (fun b _ _ => ⟨rfl, rfl⟩) rfl (fun T' hne => by simp only; rw [if_neg hne]) ?_ (fun k hk => by simpa using hk) ?_ ?_ ?_ (Adv.refl _ _)
    · obtain ⟨ao, m, c, q1, q2, q3⟩ := hroom
      refine ⟨ao, m, c, by simpa using q1, q2, ?_⟩
      rcases q3 with q3 | ⟨b, cur, et, q4, q5, q6, q7, q8⟩
      · exact .inl q3
      · exact .inr ⟨b, cur, et, q4, by simpa using q5, Nat.le_trans hinv.hB q6, q7, by simpa using q8⟩
    · intro id n' fz c hl e1
      obtain ⟨ad, m, c', r1, r2, r3⟩ := roomOf_lt e1
      obtain ⟨ao, m', c'', q1, q2, q3⟩ := hroom
      rw [r1] at q1
      cases q1
      rcases q3 with q3 | ⟨b, cur, et, q4, q5, q6, q7, q8⟩
      · omega
      · cases q4
        have := hlt.1 id n' fz c hl
        simp only at r3 this
        omega
    · intro T' m hl hne b hb e1
      obtain ⟨ad, m', c', r1, r2, r3⟩ := roomOf_lt e1
      obtain ⟨ao, m'', c'', q1, q2, q3⟩ := hroom
      rw [r1] at q1
      cases q1
      rcases q3 with q3 | ⟨b', cur, et, q4, q5, q6, q7, q8⟩
      · omega
      · cases q4
        have := hlt.2 T' m hl b hb
        simp only at r3
        omega
    · exact ext_tok (g := ⟨G', g.ι, g.ov, g.yl⟩) rfl hn G' (x, e.size)
end

theorem run_callFunc {P : Program} {f : FuncId} (h : Callable P f) (args : Array Value) (w : World) : (callFunc f args).run P w = .ok (.enter f args) w := by
  obtain ⟨fn, h1, h2, h3⟩ := h
  have h4 : fn.body.isNone = false := by cases hb : fn.body <;> simp [hb] at h2 ⊢
  simp only [callFunc, Sem.run_bind, run_program, Result.andThen_ok, h1, h3, h4, Bool.false_eq_true, if_false, Sem.run_pure]

theorem callM_ne {C : Ctx} {s : St} {em : Em} {es : List Ty} {x : dens es} (xs : List S) : callM C s em xs ≠ .emit es x := by
  intro h
  unfold callM at h
  split at h
  · split at h
    · split at h
      · split at h
        · simp only [cond_eq_ite] at h
          split at h <;> cases h
        · cases h
      · cases h
    · cases h
  · cases h

theorem resList_tip {P : Program} {G' : Gh} {w' : World} {m B : Nat} (T n : Nat) : ∀ (rs : List RTy) (x : rdens rs) (us : List Value), ResPs P G' w' m B rs x us → rs.any RTy.isFresh = true →
    ∃ v e, Room G' w' m B e v ∧ ∀ H (g' : Gs), g'.G = G' → lookO H T = some (.tok n) → g'.ov T = (v, e.size) → Each (SRel0 P H g' w') (resList T n true rs x) us
  | [], _, _, _, h => by simp at h
  | [.data τ], x, _, _, h => by simp [RTy.isFresh] at h
  | [.seqr _], x, _, _, h => by simp [RTy.isFresh] at h
  | [.fnr _ _], x, _, _, h => by simp [RTy.isFresh] at h
  | [.fresh e], x, _, ⟨v, h1, h2⟩, _ => ⟨v, e, h2.2, fun H g' hg hl hov => by
      subst h1; subst hg
      exact ⟨⟨h2.1, n, hl, Nat.le_refl _, fun _ => hov⟩, trivial⟩⟩
  | .data τ :: q :: rs, x, _, ⟨v, vs, h1, h2, h3⟩, h => by
    have h' : (q :: rs).any RTy.isFresh = true := by simpa [RTy.isFresh] using h
    obtain ⟨v', e, hr, hh⟩ := resList_tip T n (q :: rs) x.2 vs h3 h'
    refine ⟨v', e, hr, fun H g' hg hl hov => ?_⟩
    subst h1
    have := hh H g' hg hl hov
    subst hg
    exact ⟨h2, this⟩
  | .seqr _ :: q :: rs, x, _, ⟨v, vs, h1, h2, h3⟩, h => by
    have h' : (q :: rs).any RTy.isFresh = true := by simpa [RTy.isFresh] using h
    obtain ⟨v', e, hr, hh⟩ := resList_tip T n (q :: rs) x.2 vs h3 h'
    refine ⟨v', e, hr, fun H g' hg hl hov => ?_⟩
    subst h1
    have := hh H g' hg hl hov
    subst hg
    exact ⟨h2, this⟩
  | .fnr _ _ :: q :: rs, x, _, ⟨v, vs, h1, h2, h3⟩, h => by
    have h' : (q :: rs).any RTy.isFresh = true := by simpa [RTy.isFresh] using h
    obtain ⟨v', e, hr, hh⟩ := resList_tip T n (q :: rs) x.2 vs h3 h'
    refine ⟨v', e, hr, fun H g' hg hl hov => ?_⟩
    subst h1
    have := hh H g' hg hl hov
    subst hg
    exact ⟨h2, this⟩
  | .fresh e :: q :: rs, x, _, ⟨v, vs, h1, h2, h3⟩, _ => ⟨v, e, h2.2, fun H g' hg hl hov => by
      subst h1
      refine ⟨?_, resList_dat hg T n (q :: rs) x.2 vs h3⟩
      subst hg
      exact ⟨h2.1, n, hl, Nat.le_refl _, fun _ => hov⟩⟩

theorem argsD_resPs {P : Program} {G : Gh} {w : World} {m B : Nat} : ∀ (rs : List Ty) (x : dens rs) (us : List Value), ArgsD G w rs x us → ∀ y : rdens (rdata rs), HEq y x → ResPs P G w m B (rdata rs) y us
  | [], _, _, h, _, _ => h
  | [_], x, _, ⟨v, h1, h2⟩, y, hy => by
    cases hy
    exact ⟨v, h1, h2⟩
  | a :: b :: l, x, _, ⟨v, vs, h1, h2, h3⟩, y, hy => by
    have ht : rdens (rdata (b :: l)) = dens (b :: l) := rdens_rdata (b :: l)
    obtain ⟨y1, y2⟩ := y
    obtain ⟨x1, x2⟩ := x
    have key : ∀ (A X Y : Type) (h : X = Y) (p : A × X) (q : A × Y), HEq p q → p.1 = q.1 ∧ HEq p.2 q.2 := by
      intro A X Y h p q hpq
      subst h
      cases hpq
      exact ⟨rfl, HEq.rfl⟩
    obtain ⟨k1, k2⟩ := key a.den _ _ ht (y1, y2) (x1, x2) hy
    simp only at k1 k2
    subst k1
    exact ⟨v, vs, h1, h2, argsD_resPs (b :: l) x2 vs h3 y2 k2⟩

section
variable {P : Program} {C : Ctx} (hC : CtxOk P C) {N : Nat} {F : Fr} {g : Gs} {s : St} {a : Act} {w : World} (hinv : Inv P N F g s a w) {o : Oper} (hd : dstLt N F o.dst)
include hinv hd hC

omit hinv hd hC in
theorem asFn_each (hC : CtxOk P C) : ∀ (l1 : List S) (l2 : List Value), Each (SRel P s.heap g w) l1 l2 → Each (SRel P s.heap g w) (l1.map (asFn C)) l2
  | [], [], _ => trivial
  | _ :: l1, _ :: l2, h => ⟨asFn_rel hC h.1, asFn_each hC l1 l2 h.2⟩
  | [], _ :: _, h => h.elim
  | _ :: _, [], h => h.elim

theorem shown_callM {f : Operand} {args : Array Operand} {ts : Array TypeId} (hop : o.op = .call { callee := .value f, args, argTypes := ts }) {fi : FuncId} (e1 : a.eval f = .func (.func fi) #[] #[]) {em : Em} (hem : C.Γm fi = some em) {e : Eff}
    (he : (callM C s em (args.toList.map s.ev)).is e) : Shown P N F s a w o e := by
  obtain ⟨hcall, hsound⟩ := hC.ems fi em hem
  have hargs := evs hinv args.toList
  have hex : (execOp a.eval o).run P w = .ok (.enter fi (args.toList.map a.eval).toArray) w := by
    have hr := run_callFunc hcall (args.toList.map a.eval).toArray w
    unfold execOp
    rw [hop]
    simp only [resolve, Deferred.ofValue, e1, Sem.run_bind, Sem.run_pure, Result.andThen_ok, invoke]
    have : (#[] ++ Array.map a.eval args) ++ (#[] : Array Value) = (args.toList.map a.eval).toArray := by apply Array.ext'; simp
    rw [this]; exact hr
  generalize args.toList.map s.ev = l1 at *
  generalize args.toList.map a.eval = l2 at *
  unfold callM at he
  split at he
  · rename_i id n root π us
    cases l2 with
    | nil => exact hargs.elim
    | cons v vs =>
      obtain ⟨hp, hrest⟩ := hargs
      obtain ⟨m0, fz0, c0, p1, p2, p3, rfl⟩ := hp
      split at he
      · rename_i σ x hbox
        have hl := box_spec hbox
        obtain ⟨cs, et, k1, k2, k3⟩ := hinv.heap.box id n false _ hl
        rw [if_neg (by simp)] at k3
        have k2 : Rep g.G w σ x cs.toList := k2
        split at he
        · rename_i τ y xs hget hxs
          split at he
          · rename_i y' hy'
            cases castD_some hy'
            cases hb : σ.beq root && (Nat.beq (pathOff π σ) 0 && (Nat.beq em.τ.size σ.size && !em.rs.any RTy.isFresh)) with
            | false => rw [hb] at he; exact he.elim
            | true =>
              rw [hb] at he
              simp only [Bool.and_eq_true] at hb
              obtain ⟨hb1, hb2, hb3, _⟩ := hb
              obtain rfl := Ty.eq_of_beq hb1
              have hoff := Nat.eq_of_beq_eq_true hb2
              have hsz := Nat.eq_of_beq_eq_true hb3
              obtain ⟨⟨y2, r⟩, hg, hset⟩ := he
              obtain ⟨d, hd', rfl⟩ := Option.map_eq_some_iff.1 hset
              have hlen : cs.toList.length = σ.size := Rep.size _ _ _ k2
              have hrep : Rep g.G w em.τ y' cs.toList := by
                have := (pathGet_rep (G := g.G) (w := w) π ⟨σ, x⟩ _ hget p3 _ k2).1
                simp only [hoff, List.drop_zero] at this
                rwa [List.take_of_length_le (by rw [hlen, hsz]; exact Nat.le_refl _)] at this
              have hA := asPs_rel em.ps _ _ xs (asFn_each hC us vs hrest) hxs
              unfold Shown OpOk
              rw [hex]
              have hargs' : (Value.pointer (some ⟨g.ι id n, pathOff π σ, none⟩) :: vs).toArray = #[.pointer (some ⟨g.ι id n, 0, none⟩)] ++ vs.toArray := by rw [hoff]; simp
              simp only [hargs']
              refine (hsound F.m F.t g.G w hinv.mt hinv.lv (g.ι id n) cs et y' k1 k3 hrep xs vs hA y2 r hg).mono ?_
              rintro e w' ⟨us', G', cs', et', rfl, j1, j2, j3, j4, j5, j6⟩
              refine ⟨tupVal us', rfl, ?_⟩
              have hlen' : cs'.toList.length = em.τ.size := Rep.size _ _ _ j3
              have hset' := pathSet_rep (G := G') (w := w') π ⟨σ, x⟩ ⟨em.τ, y2⟩ d hd' p3 cs.toList cs'.toList (Rep.adv j4.adv σ x _ k2) j3
              have hty := pathSet_ty π ⟨σ, x⟩ ⟨em.τ, y2⟩ d hd'
              have hcon : Rep G' w' d.1 d.2 cs'.toList := by
                have := hset'.1
                rwa [hoff, splice_all (by rw [hlen', hlen, hsz])] at this
              have hx1 : Ext s.heap g ((id, .box n false (.dat d.1 d.2)) :: s.heap) ⟨G', g.ι, g.ov, g.yl⟩ := by
                refine ⟨fun id1 m fz1 c1 h1 => ?_, fun T m h1 => ⟨m, ?_, Nat.le_refl _, fun _ => rfl⟩, rfl⟩
                · by_cases e : id = id1
                  · subst e
                    rw [hl] at h1
                    cases h1
                    exact ⟨n, false, _, by rw [lookO_cons, if_pos rfl], Nat.le_refl _, fun _ _ => rfl⟩
                  · exact ⟨m, fz1, c1, by rw [lookO_cons, if_neg e]; exact h1, Nat.le_refl _, fun _ _ => rfl⟩
                · rw [lookO_cons, if_neg (fun e => by rw [e, h1] at hl; cases hl)]; exact h1
              obtain ⟨hh, hx⟩ := hinv.heap.put (g' := ⟨G', g.ι, g.ov, g.yl⟩) (w' := w') (fz' := false) (c' := .dat d.1 d.2) hl (fun b hb hne => j4.same b hb hne) rfl rfl rfl ⟨cs', et', j1, hcon, by rw [if_neg (by simp)]; exact j2⟩ j4.adv (.inl k3)
              refine ⟨⟨G', g.ι, g.ov, g.yl⟩, hinv.app (e := { val := (resEff none em.rs r).val, hw := [(id, .box n false (.dat d.1 d.2))], rd := [id] }) hd hx (resVal_rel (resList_dat rfl 0 0 em.rs r us' j6)) hh ?_⟩
              refine ⟨⟨j4.os, j4.tape, j4.output, j4.size, fun k hk hp => j4.same k hk (fun e => by rw [e, k3] at hp; exact hp rfl), j4.adv⟩, fun _ => j5, fun k ob h5 h6 => ?_⟩
              have hne : k ≠ g.ι id n := fun e => by rw [e, k1] at h5; cases h5; cases h6
              obtain ⟨q1, q2⟩ := j4.same k (Array.getElem?_eq_some_iff.1 h5).1 hne
              exact ⟨q1.trans h5, q2⟩
          · exact he.elim
        · exact he.elim
      · exact he.elim
  · exact he.elim

theorem shown_call {f : Operand} {args : Array Operand} {ts : Array TypeId} (hop : o.op = .call { callee := .value f, args, argTypes := ts }) {e : Eff} (he : (callS C s o.dst (s.ev f) (args.toList.map s.ev)).is e) : Shown P N F s a w o e := by
  have hf := hinv.ev f
  have hargs := evs hinv args.toList
  generalize hsf : s.ev f = sf at *
  unfold callS at he
  split at he
  · rename_i fi
    have e1 : a.eval f = .func (.func fi) #[] #[] := hf
    split at he
    · rename_i en hen
      obtain ⟨hcall, hsound⟩ := hC.fns fi en hen
      split at he
      · rename_i xs tk hxs htk
        obtain ⟨r, hr, rfl⟩ := he
        have hex : (execOp a.eval o).run P w = .ok (.enter fi (args.toList.map a.eval).toArray) w := by
          have hr := run_callFunc hcall (args.toList.map a.eval).toArray w
          unfold execOp
          rw [hop]
          simp only [resolve, Deferred.ofValue, e1, Sem.run_bind, Sem.run_pure, Result.andThen_ok, invoke]
          have : (#[] ++ Array.map a.eval args) ++ (#[] : Array Value) = (args.toList.map a.eval).toArray := by apply Array.ext'; simp
          rw [this]; exact hr
        have hrel : Each (SRel P s.heap g w) ((args.toList.map s.ev).map (asFn C)) (args.toList.map a.eval) := by
          clear hxs hex hop
          generalize args.toList.map s.ev = l1 at *
          generalize args.toList.map a.eval = l2 at *
          induction l1 generalizing l2 with
          | nil => cases l2 with
            | nil => trivial
            | cons _ _ => exact hargs.elim
          | cons u l1 ih => cases l2 with
            | nil => exact hargs.elim
            | cons v l2 => exact ⟨asFn_rel hC hargs.1, ih l2 hargs.2⟩
        have hA := asPs_rel en.ps _ _ xs hrel hxs
        unfold Shown OpOk
        rw [hex]
        refine (hsound F.m F.t g.G w hinv.mt hinv.lv xs _ hA r hr).mono ?_
        rintro e w' ⟨us, G', rfl, hfwd, hlv, hres⟩
        refine ⟨tupVal us, rfl, ?_⟩
        unfold resTok at htk
        cases hany : en.rs.any RTy.isFresh with
        | false =>
          rw [hany] at htk
          cases htk
          exact ⟨_, Inv.call hinv hd hfwd hlv (resVal_rel (resList_dat (g' := ⟨G', g.ι, g.ov, g.yl⟩) rfl 0 0 en.rs r us hres))⟩
        | true =>
          rw [hany, cond_true] at htk
          split at htk
          · rename_i d hdst
            split at htk
            · rename_i n hn
              cases htk
              obtain ⟨x, ee, hroom, hh⟩ := resList_tip (P := P) (tokId d) n en.rs r us hres hany
              exact hinv.callTok hd hfwd hlv hn hroom (u := resVal (resList (tokId d) n true en.rs r)) (rd := [tokId d]) (fun H g' q1 q2 q3 => resVal_rel (hh H g' q1 q2 q3))
            · cases htk
          · cases htk
            exact ⟨_, Inv.call hinv hd hfwd hlv (resVal_rel (resList_dat (g' := ⟨G', g.ι, g.ov, g.yl⟩) rfl 0 0 en.rs r us hres))⟩
      · exact he.elim
    · split at he
      · rename_i em hem
        exact shown_callM hC hinv hd hop e1 hem he
      · exact he.elim
  · rename_i ps rs fg
    obtain ⟨fi, caps, e1, hcall, hsound⟩ := hf
    split at he
    · rename_i xs hxs
      obtain ⟨r, hr, rfl⟩ := he
      have hex : (execOp a.eval o).run P w = .ok (.enter fi ((args.toList.map a.eval).toArray ++ caps)) w := by
        have hr := run_callFunc hcall ((args.toList.map a.eval).toArray ++ caps) w
        unfold execOp
        rw [hop]
        simp only [resolve, Deferred.ofValue, e1, Sem.run_bind, Sem.run_pure, Result.andThen_ok, invoke]
        have : (#[] ++ Array.map a.eval args) = (args.toList.map a.eval).toArray := by apply Array.ext'; simp
        rw [this]; exact hr
      have hA := asDs_rel ps _ _ xs hargs hxs
      have hr' : ∃ r' : dens rs, fg xs = some r' ∧ HEq r r' := by
        have key : ∀ (X Y : Type) (h : X = Y) (p : Option Y) (q : X), (h.symm ▸ p : Option X) = some q → ∃ r', p = some r' ∧ HEq q r' := by
          intro X Y h p q hh
          subst h
          exact ⟨q, hh, HEq.rfl⟩
        exact key _ _ (rdens_rdata rs) (fg xs) r hr
      obtain ⟨r', hr1, hr2⟩ := hr'
      unfold Shown OpOk
      rw [hex]
      refine (hsound F.t g.G w (Adv.refl _ _) hinv.lv xs _ hA r' hr1).mono ?_
      rintro e w' ⟨v, G', rfl, hfwd, hlv, us, hres, rfl⟩
      refine ⟨tupVal us, rfl, ?_⟩
      exact ⟨_, Inv.call hinv hd hfwd hlv (resVal_rel (resList_dat (g' := ⟨G', g.ι, g.ov, g.yl⟩) rfl 0 0 (rdata rs) r us (argsD_resPs (m := 0) (B := 0) rs r' us hres r hr2)))⟩
    · exact he.elim
  · rename_i es
    cases hh : asDs es (args.toList.map s.ev) with
    | none => rw [hh] at he; exact he.elim
    | some x => rw [hh] at he; exact he.elim
  · exact he.elim

omit hd hC in
/-- An item is handed over. -/
theorem emit_exec {f : Operand} {args : Array Operand} {ts : Array TypeId} (hop : o.op = .call { callee := .value f, args, argTypes := ts }) {es : List Ty} {x : dens es} (he : callS C s o.dst (s.ev f) (args.toList.map s.ev) = .emit es x) :
    ∃ vs, ArgsD g.G w es x vs ∧ (execOp a.eval o).run P w = (Instr.yield g.yl vs.toArray).run P w := by
  have hf := hinv.ev f
  have hargs := evs hinv args.toList
  generalize hsf : s.ev f = sf at *
  unfold callS at he
  split at he
  · split at he
    · split at he <;> cases he
    · split at he
      · exact absurd he (callM_ne _)
      · cases he
  · split at he <;> cases he
  · rename_i es'
    split at he
    · rename_i y hy
      cases he
      have e1 : a.eval f = .func (.yield g.yl) #[] #[] := hf
      refine ⟨_, asDs_rel es _ _ x hargs hy, ?_⟩
      unfold execOp
      rw [hop]
      simp only [resolve, Deferred.ofValue, e1, Sem.run_bind, Sem.run_pure, Result.andThen_ok, invoke]
      have : (#[] ++ Array.map a.eval args) = (args.toList.map a.eval).toArray := by apply Array.ext'; simp
      simp only [this]
    · cases he
  · cases he
end
end Go.Vi
