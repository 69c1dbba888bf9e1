/- Code: the whole of a function's body. -/
import Derived.Test.YtagpigbfbhdoiaaViU
import Derived.LoopN
namespace Go.Vi
open Go.RowKit (Below)

def dEff : Eff := { val := .poison }

/-- One operation hands over an item. -/
def Emit1 (C : Ctx) (ops : Array Oper) (o : Oper) (s : St) (es : List Ty) (x : dens es) : Prop :=
  dstOk C o.dst = true ∧ isCallV o.op = true ∧ evalOp C o s = .emit es x ∧ match o.guard with
    | none => True
    | some (j, want) => ∃ g, dstOf ops j = some g ∧ look .poison s.slots g = .dat .bool want

theorem Out.run_some' {R : Type} {em : EmR R} {c : Bool} {o : Out} {K : Eff → Option R} {r : R} (h : o.run (bif c then em else EmR.no R) K = some r) : (∃ e, o.is e ∧ K e = some r) ∨
    ∃ es x r1 r2, c = true ∧ o = .emit es x ∧ K { val := .dat .bool false } = some r1 ∧ em.nil r1 = true ∧ K { val := .dat .bool true } = some r2 ∧ em.cons es x r2 = some r := by
  cases c with
  | true =>
    rcases Out.run_some h with h | ⟨es, x, r1, r2, h⟩
    · exact .inl h
    · exact .inr ⟨es, x, r1, r2, rfl, h⟩
  | false =>
    rcases Out.run_some h with h | ⟨es, x, r1, r2, _, _, _, _, hc⟩
    · exact .inl h
    · cases hc

theorem step_some {R : Type} {em : EmR R} {C : Ctx} {ops : Array Oper} {o : Oper} {s : St} {K : Eff → St → Option R} {r : R} (h : step em C ops o s K = some r) : (∃ e s', s'.eqv s ∧ Act1 C ops o s e ∧ K e s' = some r) ∨
    ∃ es x r1 r2 s', s'.eqv s ∧ Emit1 C ops o s' es x ∧ K { val := .dat .bool false } s' = some r1 ∧ em.nil r1 = true ∧ K { val := .dat .bool true } s' = some r2 ∧ em.cons es x r2 = some r := by
  unfold step at h
  cases hd : dstOk C o.dst with
  | false => rw [hd] at h; cases h
  | true =>
    rw [hd, cond_true] at h
    split at h
    · rename_i hg
      rcases Out.run_some' h with ⟨e, he, hk⟩ | ⟨es, x, r1, r2, hcv, he, h1, h2, h3, h4⟩
      · exact .inl ⟨e, s, St.eqv.refl s, ⟨hd, by rw [hg]; exact he⟩, hk⟩
      · exact .inr ⟨es, x, r1, r2, s, St.eqv.refl s, ⟨hd, hcv, he, by rw [hg]; trivial⟩, h1, h2, h3, h4⟩
    · rename_i j want hg
      split at h
      · rename_i gd hgd
        split at h
        · rename_i b hb
          have refined : ∀ v : Bool, b = v → St.eqv { s with slots := (gd, .dat .bool v) :: s.slots } s := by
            intro v hv
            refine ⟨fun t => ?_, fun _ => rfl⟩
            show look .poison ((gd, S.dat .bool v) :: s.slots) t = _
            rw [look_cons]
            by_cases e : gd = t
            · rw [if_pos e, ← e, hb, hv]
            · rw [if_neg e]
          cases hw : ((b : Bool) == want) with
          | true =>
            rw [hw, cond_true] at h
            have hbw : b = want := by simpa using hw
            have heq := refined want hbw
            rcases Out.run_some' h with ⟨e, he, hk⟩ | ⟨es, x, r1, r2, hcv, he, h1, h2, h3, h4⟩
            · refine .inl ⟨e, _, heq, ⟨hd, ?_⟩, hk⟩
              rw [hg]
              exact ⟨gd, hgd, .inl ⟨b, hb, .inl ⟨hbw, evalOp_local he (fun x _ => ev_eq heq.1 x) (fun id _ => heq.2 id)⟩⟩⟩
            · refine .inr ⟨es, x, r1, r2, _, heq, ⟨hd, hcv, he, ?_⟩, h1, h2, h3, h4⟩
              rw [hg]
              refine ⟨gd, hgd, ?_⟩
              show look .poison ((gd, S.dat .bool want) :: s.slots) gd = _
              rw [look_cons, if_pos rfl]
          | false =>
            rw [hw, cond_false] at h
            have hbw : b = !want := by cases b <;> cases want <;> simp at hw ⊢
            refine .inl ⟨{ val := .gone }, _, refined (!want) hbw, ⟨hd, ?_⟩, h⟩
            rw [hg]
            exact ⟨gd, hgd, .inl ⟨b, hb, .inr ⟨hbw, rfl⟩⟩⟩
        · rename_i hgone
          refine .inl ⟨{ val := .gone }, s, St.eqv.refl s, ⟨hd, ?_⟩, h⟩
          rw [hg]
          exact ⟨gd, hgd, .inr ⟨hgone, rfl⟩⟩
        · cases h
      · cases h

theorem Runs.congr {C : Ctx} {ops : Array Oper} {E E' : Nat → Eff} : ∀ {R : List Nat} {s sf : St}, (∀ i ∈ R, E i = E' i) → Runs C ops E R s sf → Runs C ops E' R s sf
  | [], _, _, _, h => h
  | i :: R, _, _, he, ⟨o, h1, h2, h3⟩ => ⟨o, h1, by rw [← he i (by simp)]; exact h2, by rw [← he i (by simp)]; exact Runs.congr (fun k hk => he k (by simp [hk])) h3⟩

theorem stepAll_runs {R : Type} {C : Ctx} {ops : Array Oper} {K : List (List Nat × List Nat) → St → Option R} {r : R} : ∀ (l : List Oper) (k : Nat) (s : St) (fs : List (List Nat × List Nat)), (∀ j o, l[j]? = some o → ops[k + j]? = some o) →
    stepAll (EmR.no R) C ops l s fs K = some r → ∃ (es : List Eff) (sf : St), es.length = l.length ∧ Runs C ops (fun i => es.getD (i - k) dEff) (List.range' k l.length) s sf ∧ K ((es.map fpOf).reverse ++ fs) sf = some r
  | [], k, s, fs, _, h => ⟨[], s, rfl, St.eqv.refl s, h⟩
  | o :: l, k, s, fs, hl, h => by
    simp only [stepAll] at h
    rcases step_some h with ⟨e, s', hs', hact, h⟩ | ⟨_, _, _, _, _, _, _, _, _, _, hc⟩
    case inr => cases hc
    obtain ⟨es, sf, h1, h2, h3⟩ := stepAll_runs l (k + 1) (s'.app o.dst e) _ (fun j o' hj => by
      have := hl (j + 1) o' (by simpa using hj)
      rw [show k + 1 + j = k + (j + 1) by omega]; exact this) h
    refine ⟨e :: es, sf, by simp [h1], ?_, by simpa [fpOf] using h3⟩
    rw [List.length_cons, List.range'_succ]
    refine ⟨o, by simpa using hl 0 o rfl, by simpa using hact, ?_⟩
    have h2' : Runs C ops (fun i => (e :: es).getD (i - k) dEff) (List.range' (k + 1) l.length) (s'.app o.dst e) sf :=
      h2.congr fun i hi => by
        have : k + 1 ≤ i := (List.mem_range'_1.1 hi).1
        rw [show i - k = (i - (k + 1)) + 1 by omega]; rfl
    simpa using h2'.eqv (eqv_app hs' _ _)

/-- What the rest of the world has handed to a frame. -/
structure EmOk {R : Type} (P : Program) (F : Fr) (τ : Nat) (em : EmR R) (J : R → Gh → World → Prop) : Prop where
  lt : τ < F.m
  ab : Abide τ J
  y : (∀ es x r, em.cons es x r = none) ∨ ((∀ o, F.p o → Own.above τ o) ∧ YieldOk P F.yl τ em J)
theorem Own.upto_offs {τ m : Nat} (h : τ < m) : ∀ o : Own, o.upto τ → o.offs m
  | .stays, _ => trivial
  | .mine j, k => by have : j ≤ τ := k; show j ≠ m; omega
  | .room j _, k => by have : j ≤ τ := k; show j ≠ m; omega
theorem EmOk.X {R : Type} {P : Program} {F : Fr} {τ : Nat} {em : EmR R} {J : R → Gh → World → Prop} (h : EmOk P F τ em J) (r : R) : Xok F (J r) :=
  fun G w G' w' hj hk => h.ab r G w G' w' hj (hk.mono (Own.upto_offs h.lt))

/-- Others' steps. -/
theorem HeapRel.kp {P : Program} {H : Heap} {g : Gs} {w : World} {F : Fr} (h : HeapRel P H g w F) {q : Own → Prop} {G' : Gh} {w' : World} (k : Kp q g.G w G' w') (hqs : q .stays) (hqm : q (.mine F.m)) (hqr : ∀ hi, q (.room F.m hi)) :
    HeapRel P H ⟨G', g.ι, g.ov, g.yl⟩ w' F ∧ Ext H g H ⟨G', g.ι, g.ov, g.yl⟩ := by
  have hx : Ext H g H ⟨G', g.ι, g.ov, g.yl⟩ := ⟨fun _ m fz c h => ⟨m, fz, c, h, Nat.le_refl _, fun _ _ => rfl⟩, fun _ m h => ⟨m, h, Nat.le_refl _, fun _ => rfl⟩, rfl⟩
  refine ⟨⟨fun id n fz c hl => ?_, fun T n hl => ?_, fun id n fz c id' n' fz' c' h1 h2 hne => h.apart id n fz c id' n' fz' c' h1 h2 hne, fun T n T' n' h1 h2 hne b hb => h.rooms T n T' n' h1 h2 hne b hb⟩, hx⟩
  · obtain ⟨cs, et, h1, h2, h3⟩ := h.box id n fz c hl
    have hlt : g.ι id n < w.heap.size := (Array.getElem?_eq_some_iff.1 h1).1
    obtain ⟨k1, k2⟩ := k.same _ hlt (by rw [h3]; split <;> assumption)
    exact ⟨cs, et, k1.trans h1, h2.ext hx k.adv, k2.trans h3⟩
  · obtain ⟨ao, m, c, h1, h2, h3⟩ := h.tok T n hl
    refine ⟨ao, m, c, h1, h2, ?_⟩
    rcases h3 with h3 | ⟨b, cur, et, h4, h5, h6, h7, h8⟩
    · exact .inl h3
    · have hlt : b < w.heap.size := (Array.getElem?_eq_some_iff.1 h7).1
      obtain ⟨k1, k2⟩ := k.same _ hlt (by rw [h5]; exact hqr _)
      exact .inr ⟨b, cur, et, h4, k2.trans h5, h6, k1.trans h7, h8⟩
theorem Kp.then {p q : Own → Prop} {G G' G'' : Gh} {w w' w'' : World} (h : Kp p G w G' w') (k : Kp q G' w' G'' w'') (hq : ∀ b, b < w.heap.size → p (G b) → q (G b)) : Kp p G w G'' w'' :=
  ⟨k.os.trans h.os, k.tape.trans h.tape, k.output.trans h.output, Nat.le_trans h.size k.size, fun b hb hp => by
    obtain ⟨h1, h2⟩ := h.same b hb hp
    obtain ⟨k1, k2⟩ := k.same b (Nat.lt_of_lt_of_le hb h.size) (by rw [h2]; exact hq b hb hp)
    exact ⟨k1.trans h1, k2.trans h2⟩, h.adv.trans k.adv⟩
theorem Inv.kp {P : Program} {N : Nat} {F : Fr} {g : Gs} {s : St} {a : Act} {w : World} (h : Inv P N F g s a w) {q : Own → Prop} {G' : Gh} {w' : World} (k : Kp q g.G w G' w') (hqs : q .stays) (hqm : q (.mine F.m)) (hqr : ∀ hi, q (.room F.m hi))
    (hp : ∀ b, b < F.w.heap.size → F.p (F.G b) → q (F.G b)) (hl : Lv F.t G' w') : Inv P N F ⟨G', g.ι, g.ov, g.yl⟩ s a w' := by
  obtain ⟨h1, h2⟩ := h.heap.kp k hqs hqm hqr
  refine ⟨fun t => (h.slots t).ext h2 k.adv, h.size, h.defers.kp k hqm, h1, h.stp.then k hp, hl, h.mt, Nat.le_trans h.hB k.size, fun l o hl => ?_, h.pin, h.yl, h.hp, h.hrd, h.lv0⟩
  obtain ⟨q1, q2, q3⟩ := h.objs l o hl
  obtain ⟨k1, k2⟩ := k.same l (Array.getElem?_eq_some_iff.1 q1).1 (by rw [q3]; exact hqm)
  exact ⟨k1.trans q1, q2, k2.trans q3⟩

section
variable {P : Program} {C : Ctx} (hC : CtxOk P C) {F : Fr} (hpins : F.pins = C.pins) {R : Type} {em : EmR R} {τ : Nat} {J : R → Gh → World → Prop} (hE : EmOk P F τ em J)
include hC hpins hE

omit hC in
theorem emit1_wp {ops : Array Oper} {i : Nat} {o : Oper} (ho : ops[i]? = some o) {g : Gs} {s : St} {a : Act} {w : World} (hinv : Inv P C.ntmps F g s a w) {es : List Ty} {x : dens es} (h : Emit1 C ops o s es x) {r1 r2 r : R} (hn : em.nil r1 = true) (hc : em.cons es x r2 = some r) (hJ : J r g.G w)
    {K : Act → World → Prop} {Q : Exit → Act → World → Prop}
    (hK : ∀ (b : Bool) g' a' w', Inv P C.ntmps F g' (s.app o.dst { val := .dat .bool b }) a' w' → J (bif b then r2 else r1) g'.G w' → K a' w') : wpOpIn (wr F.rd) 0 P ops Q i K a w := by
  obtain ⟨hd0, hcv, he, hg⟩ := h
  rcases hE.y with hno | ⟨hpt, hy⟩
  · rw [hno] at hc; cases hc
  have hd : dstLt C.ntmps F o.dst := by
    unfold dstOk at hd0
    cases hdst : o.dst with
    | none => trivial
    | some d =>
      rw [hdst] at hd0
      simp only [Bool.and_eq_true, Bool.not_eq_true'] at hd0
      refine ⟨by simpa using hd0.1, fun hm => ?_⟩
      rw [hpins] at hm
      rw [mem_iff.2 hm] at hd0
      cases hd0.2
  have hop : ∃ f args ts, o.op = .call { callee := .value f, args, argTypes := ts } ∧ callS C s o.dst (s.ev f) (args.toList.map s.ev) = .emit es x := by
    unfold isCallV at hcv
    split at hcv
    · rename_i f args ts hop
      refine ⟨f, args, ts, hop, ?_⟩
      unfold evalOp at he
      rw [hop] at he
      exact he
    · cases hcv
  obtain ⟨f, args, ts, hop, hcall⟩ := hop
  obtain ⟨vs, hvs, hrun⟩ := emit_exec hinv hop hcall
  obtain ⟨fn, tmps, assign, body, hy1, hy2⟩ := hy es x r2 r hc g.G w vs F.t hJ hinv.lv (Nat.le_trans (Nat.le_of_lt hE.lt) hinv.mt) hvs
  have hwant : Region.wanted o (yielded ops a.tmps) = true := by
    cases hgd : o.guard with
    | none => simp [Region.wanted, hgd]
    | some p =>
      obtain ⟨j, want⟩ := p
      rw [hgd] at hg
      obtain ⟨gd, h3, h4⟩ := hg
      have hs := hinv.slots gd
      rw [h4] at hs
      have hv : a.tmps.getD gd undef = .bool want := RepV.bool hs
      have hlt : gd < a.tmps.size := by
        rcases Nat.lt_or_ge gd a.tmps.size with hlt | hge
        · exact hlt
        · rw [Array.getD_eq_getD_getElem?, Array.getElem?_eq_none hge] at hv
          cases hv
      have hget : a.tmps[gd]? = some (.bool want) := by
        rw [Array.getElem?_eq_getElem hlt]
        rw [Array.getD_eq_getD_getElem?, Array.getElem?_eq_getElem hlt] at hv
        exact congrArg some hv
      have hyl : yielded ops a.tmps j = some want := by
        unfold yielded
        unfold dstOf at h3
        rw [h3]
        simp [hget]
      simp [Region.wanted, hgd, hyl]
  unfold wpOpIn
  rw [ho]
  simp only
  rw [if_pos hwant]
  refine ⟨fun _ _ => trivial, ?_⟩
  rw [Oper.semAt_eq _ _ _ (fun c hc => by rw [hop] at hc; cases hc), hrun, hinv.yl, hy1]
  refine ⟨fun hd => (by cases hd), RoundIn.mono (show RoundIn (wr F.rd) (0 - 1) P F.yl fn tmps assign body w _ from hy2) ?_⟩
  rintro e w' ⟨b, G', rfl, k1, k2, k3, k4⟩
  have hi := hinv.kp k1 trivial hE.lt (fun _ => hE.lt) (fun _ _ => hpt _) k2
  refine hK b ⟨G', g.ι, g.ov, g.yl⟩ _ _ (hi.val hd (SRel.dat (RepV.mk_bool b))) ?_
  cases b with
  | true => exact k3 rfl
  | false => exact k4 rfl r1 hn

theorem stepAll_wp {ops : Array Oper} {Q : Exit → Act → World → Prop} {K : List (List Nat × List Nat) → St → Option R}
    (hQ : ∀ fs sf g' a' w' r', K fs sf = some r' → Inv P C.ntmps F g' sf a' w' → J r' g'.G w' → Q .normal a' w') : ∀ (l : List Oper) (k : Nat) (s : St) (fs : List (List Nat × List Nat)) (r : R) {g : Gs} {a : Act} {w : World}, (∀ j o, l[j]? = some o → ops[k + j]? = some o) →
    Inv P C.ntmps F g s a w → J r g.G w → stepAll em C ops l s fs K = some r → wpOpsIn (wr F.rd) 0 P ops Q (List.range' k l.length) a w
  | [], k, s, fs, r, g, a, w, _, hinv, hJ, h => hQ fs s g a w r h hinv hJ
  | o :: l, k, s, fs, r, g, a, w, hl, hinv, hJ, h => by
    simp only [stepAll] at h
    have ho : ops[k]? = some o := by simpa using hl 0 o rfl
    have hl' : ∀ j o', l[j]? = some o' → ops[k + 1 + j]? = some o' := fun j o' hj => by
      have := hl (j + 1) o' (by simpa using hj)
      rw [show k + 1 + j = k + (j + 1) by omega]; exact this
    rw [List.length_cons, List.range'_succ, wpOpsIn_cons]
    rcases step_some h with ⟨e, s', hs', hact, h⟩ | ⟨es, x, r1, r2, s', hs', hem, h1, hn, h2, hc⟩
    · refine act1_wp hC hpins (hE.X r) ho ⟨hinv.eqv hs'.symm, hJ⟩ (hact.eqv hs'.symm) fun g' a' w' hi => ?_
      exact stepAll_wp hQ l (k + 1) _ _ r hl' hi.1 hi.2 h
    · refine emit1_wp hpins hE ho (hinv.eqv hs'.symm) hem hn hc hJ fun b g' a' w' hi hj => ?_
      cases b with
      | true => exact stepAll_wp hQ l (k + 1) _ _ r2 hl' hi hj h2
      | false => exact stepAll_wp hQ l (k + 1) _ _ r1 hl' hi hj h1

theorem region_wp {id : Nat} {ops : Array Oper} {draw : Bool} {s : St} {K : St → Option R} {r : R} (h : region em C ops draw s K = some r) {g : Gs} {a : Act} {w : World} (hinv : Inv P C.ntmps F g s a w) (hJ : J r g.G w) {Q : Exit → Act → World → Prop}
    (hQ : ∀ sf g' a' w' r', K sf = some r' → Inv P C.ntmps F g' sf a' w' → J r' g'.G w' → Q .normal a' w') : (Code.region id ops draw).wpIn (wr F.rd) 0 P Q a w := by
  have hops : ∀ j o, ops.toList[j]? = some o → ops[0 + j]? = some o := fun j o hj => by rw [Nat.zero_add]; simpa using hj
  cases draw with
  | false =>
    simp only [region, cond_false] at h
    refine wpIn_region ?_
    rw [List.range_eq_range']
    have := stepAll_wp hC hpins hE (Q := Q) (fun fs sf g' a' w' r' => hQ sf g' a' w' r') ops.toList 0 s [] r hops hinv hJ h
    rw [Array.length_toList] at this
    exact this
  | true =>
    have hX := hE.X r
    simp only [region, cond_true] at h
    cases hb : aheadAll ops && noSelect ops with
    | false => rw [hb] at h; cases h
    | true =>
      rw [hb, cond_true] at h
      simp only [Bool.and_eq_true] at hb
      obtain ⟨es, sf, h1, h2, h3⟩ := stepAll_runs ops.toList 0 s [] hops h
      rw [List.append_nil, List.reverse_reverse] at h3
      cases hcalm : calmAll ops (es.map fpOf) with
      | false => rw [hcalm] at h3; cases h3
      | true =>
        rw [hcalm, cond_true] at h3
        refine wpIn_region_any hC.mixed ?_
        have hlen : es.length = ops.size := by rw [h1, Array.length_toList]
        rw [Array.length_toList] at h2
        refine runs_any hC hpins hX hb.1 (E := fun i => es.getD (i - 0) dEff) ?_ ops.size (Array.replicate ops.size false) (List.range' 0 ops.size) (by simp) (List.pairwise_lt_range' (n := ops.size)) (fun i => ?_) (by simp) ?_ ⟨hinv.drew, hX _ _ _ _ hJ Kp.drew⟩ h2 fun g' a' w' hi => hQ sf g' a' w' r h3 hi.1 hi.2
        · intro i j oi oj hij hoi hoj
          unfold calmAll at hcalm
          simp only [List.all_eq_true, Bool.or_eq_true] at hcalm
          have hj : j < ops.toList.length := by rw [Array.length_toList]; exact (Array.getElem?_eq_some_iff.1 hoj).1
          have hc := hcalm j (List.mem_range.2 hj) i (List.mem_range.2 hij)
          have e1 : ops.toList.getD i default = oi := by rw [List.getD_eq_getElem?_getD, Array.getElem?_toList, hoi]; rfl
          have e2 : ops.toList.getD j default = oj := by rw [List.getD_eq_getElem?_getD, Array.getElem?_toList, hoj]; rfl
          have e3 : ∀ k, k < ops.size → (es.map fpOf).getD k ([], []) = fpOf (es.getD k dEff) := by
            intro k hk
            have hk' : k < es.length := by rw [hlen]; exact hk
            rw [List.getD_eq_getElem?_getD, List.getElem?_map, List.getD_eq_getElem?_getD, List.getElem?_eq_getElem hk']; rfl
          rw [Array.length_toList] at hj
          rw [e1, e2, e3 i (by omega), e3 j hj] at hc
          simp only [Nat.sub_zero]
          rcases hc with hc | hc
          · exact .inl (mem_iff.1 hc)
          · exact .inr hc
        · rw [List.mem_range'_1]
          constructor
          · rintro ⟨_, hi⟩
            have hi' : i < ops.size := by omega
            exact ⟨hi', by rw [Array.getD_eq_getD_getElem?, Array.getElem?_replicate, if_pos hi']; rfl⟩
          · rintro ⟨hi, _⟩
            exact ⟨by omega, by omega⟩
        · intro i o hi hl
          rw [Array.getD_eq_getD_getElem?, Array.getElem?_replicate, if_pos hi] at hl
          cases hl
end

/-! ### a loop's head -/
end Go.Vi
