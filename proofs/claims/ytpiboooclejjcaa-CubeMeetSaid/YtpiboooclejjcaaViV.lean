/- Code: the whole of a function's body. -/
import Derived.Test.YtpiboooclejjcaaViU
import Derived.LoopN
namespace Go.Vi
open Go.RowKit (Below)

def dEff : Eff := { val := .poison }

theorem step_some {R : Type} {C : Ctx} {ops : Array Oper} {o : Oper} {s : St} {K : Eff → St → Option R} {r : R} (h : step C ops o s K = some r) : ∃ e s', s'.eqv s ∧ Act1 C ops o s e ∧ K e s' = some r := by
  unfold step at h
  cases hd : dstOk C o.dst with
  | false => rw [hd] at h; cases h
  | true =>
    rw [hd, cond_true] at h
    split at h
    · rename_i hg
      obtain ⟨e, he, hk⟩ := Out.run_some h
      exact ⟨e, s, St.eqv.refl s, ⟨hd, by rw [hg]; exact he⟩, hk⟩
    · rename_i j want hg
      split at h
      · rename_i gd hgd
        split at h
        · rename_i b hb
          have refined : ∀ v : Bool, b = v → St.eqv { s with slots := (gd, .dat .bool v) :: s.slots } s := by
            intro v hv
            refine ⟨fun t => ?_, fun _ => rfl⟩
            show look .poison ((gd, S.dat .bool v) :: s.slots) t = _
            rw [look_cons]
            by_cases e : gd = t
            · rw [if_pos e, ← e, hb, hv]
            · rw [if_neg e]
          cases hw : ((b : Bool) == want) with
          | true =>
            rw [hw, cond_true] at h
            have hbw : b = want := by simpa using hw
            obtain ⟨e, he, hk⟩ := Out.run_some h
            have heq := refined want hbw
            refine ⟨e, _, heq, ⟨hd, ?_⟩, hk⟩
            rw [hg]
            exact ⟨gd, hgd, .inl ⟨b, hb, .inl ⟨hbw, evalOp_local he (fun x _ => ev_eq heq.1 x) (fun id _ => heq.2 id)⟩⟩⟩
          | false =>
            rw [hw, cond_false] at h
            have hbw : b = !want := by cases b <;> cases want <;> simp at hw ⊢
            refine ⟨{ val := .gone }, _, refined (!want) hbw, ⟨hd, ?_⟩, h⟩
            rw [hg]
            exact ⟨gd, hgd, .inl ⟨b, hb, .inr ⟨hbw, rfl⟩⟩⟩
        · rename_i hgone
          refine ⟨{ val := .gone }, s, St.eqv.refl s, ⟨hd, ?_⟩, h⟩
          rw [hg]
          exact ⟨gd, hgd, .inr ⟨hgone, rfl⟩⟩
        · cases h
      · cases h

theorem Runs.congr {C : Ctx} {ops : Array Oper} {E E' : Nat → Eff} : ∀ {R : List Nat} {s sf : St}, (∀ i ∈ R, E i = E' i) → Runs C ops E R s sf → Runs C ops E' R s sf
  | [], _, _, _, h => h
  | i :: R, _, _, he, ⟨o, h1, h2, h3⟩ => ⟨o, h1, by rw [← he i (by simp)]; exact h2, by rw [← he i (by simp)]; exact Runs.congr (fun k hk => he k (by simp [hk])) h3⟩

theorem stepAll_runs {R : Type} {C : Ctx} {ops : Array Oper} {K : List (List Nat × List Nat) → St → Option R} {r : R} : ∀ (l : List Oper) (k : Nat) (s : St) (fs : List (List Nat × List Nat)), (∀ j o, l[j]? = some o → ops[k + j]? = some o) →
    stepAll C ops l s fs K = some r → ∃ (es : List Eff) (sf : St), es.length = l.length ∧ Runs C ops (fun i => es.getD (i - k) dEff) (List.range' k l.length) s sf ∧ K ((es.map fpOf).reverse ++ fs) sf = some r
  | [], k, s, fs, _, h => ⟨[], s, rfl, St.eqv.refl s, h⟩
  | o :: l, k, s, fs, hl, h => by
    simp only [stepAll] at h
    obtain ⟨e, s', hs', hact, h⟩ := step_some h
    obtain ⟨es, sf, h1, h2, h3⟩ := stepAll_runs l (k + 1) (s'.app o.dst e) _ (fun j o' hj => by
      have := hl (j + 1) o' (by simpa using hj)
      rw [show k + 1 + j = k + (j + 1) by omega]; exact this) h
    refine ⟨e :: es, sf, by simp [h1], ?_, by simpa [fpOf] using h3⟩
    rw [List.length_cons, List.range'_succ]
    refine ⟨o, by simpa using hl 0 o rfl, by simpa using hact, ?_⟩
    have h2' : Runs C ops (fun i => (e :: es).getD (i - k) dEff) (List.range' (k + 1) l.length) (s'.app o.dst e) sf :=
      h2.congr fun i hi => by
        have : k + 1 ≤ i := (List.mem_range'_1.1 hi).1
        rw [show i - k = (i - (k + 1)) + 1 by omega]; rfl
    simpa using h2'.eqv (eqv_app hs' _ _)

section
variable {P : Program} {C : Ctx} (hC : CtxOk P C) {G0 : Gh} {w0 : World}
include hC

theorem region_wp {id : Nat} {ops : Array Oper} {draw : Bool} {s : St} {R : Type} {K : St → Option R} {r : R} (h : region C ops draw s K = some r) {g : Gs} {a : Act} {w : World} (hinv : Inv P C.ntmps G0 w0 g s a w) {Q : Exit → Act → World → Prop}
    (hQ : ∀ sf g' a' w', K sf = some r → Inv P C.ntmps G0 w0 g' sf a' w' → Q .normal a' w') : (Code.region id ops draw).wp P Q a w := by
  have hops : ∀ j o, ops.toList[j]? = some o → ops[0 + j]? = some o := fun j o hj => by rw [Nat.zero_add]; simpa using hj
  cases draw with
  | false =>
    simp only [region, cond_false] at h
    obtain ⟨es, sf, h1, h2, h3⟩ := stepAll_runs ops.toList 0 s [] hops h
    refine wp_region ?_
    rw [List.range_eq_range']
    rw [Array.length_toList] at h2
    exact runs_wp hC _ hinv h2 fun g' a' w' hi => hQ sf g' a' w' h3 hi
  | true =>
    simp only [region, cond_true] at h
    cases hb : aheadAll ops && noSelect ops with
    | false => rw [hb] at h; cases h
    | true =>
      rw [hb, cond_true] at h
      simp only [Bool.and_eq_true] at hb
      obtain ⟨es, sf, h1, h2, h3⟩ := stepAll_runs ops.toList 0 s [] hops h
      rw [List.append_nil, List.reverse_reverse] at h3
      cases hcalm : calmAll ops (es.map fpOf) with
      | false => rw [hcalm] at h3; cases h3
      | true =>
        rw [hcalm, cond_true] at h3
        refine wp_region_any hC.mixed ?_
        have hlen : es.length = ops.size := by rw [h1, Array.length_toList]
        rw [Array.length_toList] at h2
        refine runs_any hC hb.1 (E := fun i => es.getD (i - 0) dEff) ?_ ops.size (Array.replicate ops.size false) (List.range' 0 ops.size) (by simp) (List.pairwise_lt_range' (n := ops.size)) (fun i => ?_) (by simp) ?_ hinv.drew h2 fun g' a' w' hi => hQ sf g' a' w' h3 hi
        · intro i j oi oj hij hoi hoj
          unfold calmAll at hcalm
          simp only [List.all_eq_true, Bool.or_eq_true] at hcalm
          have hj : j < ops.toList.length := by rw [Array.length_toList]; exact (Array.getElem?_eq_some_iff.1 hoj).1
          have hc := hcalm j (List.mem_range.2 hj) i (List.mem_range.2 hij)
          have e1 : ops.toList.getD i default = oi := by rw [List.getD_eq_getElem?_getD, Array.getElem?_toList, hoi]; rfl
          have e2 : ops.toList.getD j default = oj := by rw [List.getD_eq_getElem?_getD, Array.getElem?_toList, hoj]; rfl
          have e3 : ∀ k, k < ops.size → (es.map fpOf).getD k ([], []) = fpOf (es.getD k dEff) := by
            intro k hk
            have hk' : k < es.length := by rw [hlen]; exact hk
            rw [List.getD_eq_getElem?_getD, List.getElem?_map, List.getD_eq_getElem?_getD, List.getElem?_eq_getElem hk']; rfl
          rw [Array.length_toList] at hj
          rw [e1, e2, e3 i (by omega), e3 j hj] at hc
          simp only [Nat.sub_zero]
          rcases hc with hc | hc
          · exact .inl (mem_iff.1 hc)
          · exact .inr hc
        · rw [List.mem_range'_1]
          constructor
          · rintro ⟨_, hi⟩
            have hi' : i < ops.size := by omega
            exact ⟨hi', by rw [Array.getD_eq_getD_getElem?, Array.getElem?_replicate, if_pos hi']; rfl⟩
          · rintro ⟨hi, _⟩
            exact ⟨by omega, by omega⟩
        · intro i o hi hl
          rw [Array.getD_eq_getD_getElem?, Array.getElem?_replicate, if_pos hi] at hl
          cases hl
end

/-! ### a loop's head -/
theorem keepSlots_spec (s : St) : ∀ (l used : List Nat) (a : List (Nat × S)) (b : List (Nat × HC)), keepSlots s l used = some (a, b) →
    (∀ t v, lookO a t = some v → t ∈ l ∧ v = keepTag s t (look .poison s.slots t)) ∧ (∀ T hc, lookO b T = some hc → ∃ k ∈ l, T = tokId k ∧ hc = .tok 0 ∧ ∃ e x, keepTag s k (look .poison s.slots k) = .lst (.tip (tokId k) 0) e x) ∧
    (∀ k ∈ l, (∃ e x, keepTag s k (look .poison s.slots k) = .lst (.tip (tokId k) 0) e x) → lookO b (tokId k) = some (.tok 0)) ∧
    (∀ k ∈ l, ∀ T ∈ tokOf s (look .poison s.slots k), T ∉ used) ∧ (∀ k1 ∈ l, ∀ k2 ∈ l, k1 ≠ k2 → ∀ T ∈ tokOf s (look .poison s.slots k1), T ∉ tokOf s (look .poison s.slots k2))
  | [], used, a, b, h => by
    cases h
    exact ⟨fun t v hv => (by cases hv), fun T hc hv => (by cases hv), fun k hk => (by cases hk), fun k hk => (by cases hk), fun k hk => (by cases hk)⟩
  | k :: l, used, a, b, h => by
    simp only [keepSlots] at h
    cases hm : meet (tokOf s (look .poison s.slots k)) used with
    | true => rw [hm] at h; cases h
    | false =>
      rw [hm, cond_false] at h
      split at h
      · rename_i a' b' hrec
        cases h
        obtain ⟨h1, h2, h3, h4, h5⟩ := keepSlots_spec s l _ a' b' hrec
        have hshape : ∀ k T n e x, keepTag s k (look .poison s.slots k) = .lst (.tip T n) e x → T = tokId k ∧ n = 0 := by
          intro k T n e x hk
          unfold keepTag at hk
          split at hk
          · cases hk; exact ⟨rfl, rfl⟩
          · split at hk
            · rename_i m _
              cases hb : Nat.beq m _ with
              | true => rw [hb] at hk; cases hk; exact ⟨rfl, rfl⟩
              | false => rw [hb] at hk; cases hk
            · cases hk
          · split at hk <;> cases hk
          · cases hk
          · rename_i v hv1 hv2 hv3 hv4
            exfalso
            cases T <;> exact hv2 _ _ _ _ hk
        refine ⟨fun t v hv => ?_, fun T hc hv => ?_, fun k' hk' hex => ?_, fun k' hk' T hT => ?_, fun k1 hk1 k2 hk2 hne T hT => ?_⟩
        · rw [lookO_cons] at hv
          by_cases e : k = t
          · rw [if_pos e] at hv
            cases hv
            exact ⟨by simp [e], by rw [e]⟩
          · rw [if_neg e] at hv
            obtain ⟨q1, q2⟩ := h1 t v hv
            exact ⟨by simp [q1], q2⟩
        · split at hv
          · rename_i T' n' e' x' heq
            obtain ⟨q1, q2⟩ := hshape k T' n' e' x' heq
            rw [lookO_cons] at hv
            by_cases e : tokId k = T
            · rw [if_pos e] at hv
              cases hv
              subst q1; subst q2
              exact ⟨k, by simp, e.symm, rfl, e', x', heq⟩
            · rw [if_neg e] at hv
              obtain ⟨k0, q3, q4⟩ := h2 T hc hv
              exact ⟨k0, by simp [q3], q4⟩
          · obtain ⟨k0, q3, q4⟩ := h2 T hc hv
            exact ⟨k0, by simp [q3], q4⟩
        · split
          · rw [lookO_cons]
            by_cases e : tokId k = tokId k'
            · rw [if_pos e]
            · rw [if_neg e]
              rcases List.mem_cons.1 hk' with rfl | hk'
              · exact absurd rfl e
              · exact h3 k' hk' hex
          · rename_i hno
            rcases List.mem_cons.1 hk' with rfl | hk'
            · obtain ⟨e, x, heq⟩ := hex
              exact absurd heq (hno _ _ _ _)
            · exact h3 k' hk' hex
        · rcases List.mem_cons.1 hk' with rfl | hk'
          · exact meet_spec hm T hT
          · exact fun hu => h4 k' hk' T hT (List.mem_append_right _ hu)
        · rcases List.mem_cons.1 hk1 with e1 | hk1'
          · rcases List.mem_cons.1 hk2 with e2 | hk2'
            · exact absurd (e1.trans e2.symm) hne
            · subst e1
              exact fun hT2 => h4 k2 hk2' T hT2 (List.mem_append_left _ hT)
          · rcases List.mem_cons.1 hk2 with e2 | hk2'
            · subst e2
              exact fun hT2 => h4 k1 hk1' T hT (List.mem_append_left _ hT2)
            · exact h5 k1 hk1' k2 hk2' hne T hT
      · cases h

theorem keepHeap_spec (s : St) : ∀ (l : List Nat) (h : List (Nat × HC)), keepHeap s l = some h →
    (∀ id hc, lookO h id = some hc → id ∈ l ∧ ∃ n fz c c', hc = .box 0 fz c' ∧ lookO s.heap id = some (.box n fz c) ∧ (c' = c ∨ ∃ k e x, c = .lst k e x ∧ c' = .dat (.slc e) x)) ∧ ∀ id ∈ l, ∃ hc, lookO h id = some hc
  | [], h, hk => by cases hk; exact ⟨fun id hc hv => (by cases hv), fun id hid => (by cases hid)⟩
  | k :: l, h, hk => by
    simp only [keepHeap] at hk
    have go : ∀ (fz : Bool) (n : Nat) (c c' : S), lookO s.heap k = some (.box n fz c) → (c' = c ∨ ∃ k e x, c = .lst k e x ∧ c' = .dat (.slc e) x) → (keepHeap s l).map ((k, HC.box 0 fz c') :: ·) = some h →
        (∀ id hc, lookO h id = some hc → id ∈ k :: l ∧ ∃ n fz c c', hc = .box 0 fz c' ∧ lookO s.heap id = some (.box n fz c) ∧ (c' = c ∨ ∃ k e x, c = .lst k e x ∧ c' = .dat (.slc e) x)) ∧ ∀ id ∈ k :: l, ∃ hc, lookO h id = some hc := by
      intro fz n c c' hl hc' hm
      rw [Option.map_eq_some_iff] at hm
      obtain ⟨h', hrec, rfl⟩ := hm
      obtain ⟨q1, q2⟩ := keepHeap_spec s l h' hrec
      refine ⟨fun id hc hv => ?_, fun id hid => ?_⟩
      · rw [lookO_cons] at hv
        by_cases e : k = id
        · rw [if_pos e] at hv
          cases hv
          exact ⟨by simp [e], n, fz, c, c', rfl, by rw [← e]; exact hl, hc'⟩
        · rw [if_neg e] at hv
          obtain ⟨r1, r2⟩ := q1 id hc hv
          exact ⟨by simp [r1], r2⟩
      · rw [lookO_cons]
        by_cases e : k = id
        · rw [if_pos e]; exact ⟨_, rfl⟩
        · rw [if_neg e]
          rcases List.mem_cons.1 hid with rfl | hid
          · exact absurd rfl e
          · exact q2 id hid
    split at hk
    · rename_i n fz σ x hl
      exact go fz n _ _ hl (.inl rfl) hk
    · rename_i n fz kk e x hl
      exact go fz n _ _ hl (.inr ⟨kk, e, x, rfl, rfl⟩) hk
    · rename_i n fz ps rs g hl
      exact go fz n _ _ hl (.inl rfl) hk
    · cases hk
end Go.Vi
