/- A loop's head. -/
import Derived.Test.YtagpigbfbhdoiaaViV
import Derived.LoopNIn
import Derived.Scope
namespace Go.Vi
open Go.RowKit (Below)

/-! ### what is kept -/
theorem keepTag_tip {s : St} {T' T n : Nat} {u : S} {e : Ty} {x : List e.den} (h : keepTag s T' u = .lst (.tip T n) e x) : T = T' ∧ n = 0 := by
  unfold keepTag at h
  split at h
  · cases h; exact ⟨rfl, rfl⟩
  · split at h
    · rename_i m _
      cases hb : Nat.beq m _ with
      | true => rw [hb] at h; cases h; exact ⟨rfl, rfl⟩
      | false => rw [hb] at h; cases h
    · cases h
  · split at h <;> cases h
  · split at h <;> cases h
  · cases h
  · cases h
  · cases h
  · cases h
  · cases h
  · rename_i v hv1 hv2 hv3 hv4 hv5 hv6 hv7 hv8 hv9
    exfalso
    exact hv2 _ _ _ _ h
theorem keepCon_of {s : St} {T : Nat} {c : S} (h : ∀ τ x π k e ys, c ≠ .fat τ x π k e ys) : keepCon s T c = keepTag s T c := by
  cases c with
  | fat τ x π k e ys => exact absurd rfl (h _ _ _ _ _ _)
  | _ => rfl
theorem isTip_spec {u : S} (h : isTip u = true) : ∃ T n e x, u = .lst (.tip T n) e x := by
  unfold isTip at h
  split at h
  · exact ⟨_, _, _, _, rfl⟩
  · cases h

theorem tokRows_some (s : St) : ∀ (l : List (Bool × Nat)) (T : Nat) (hc : HC), lookO (tokRows s l) T = some hc → ∃ p ∈ l, T = ptok p ∧ hc = .tok 0 ∧ isTip (keepTag s (ptok p) (plc s p)) = true
  | [], _, _, h => by cases h
  | p :: l, T, hc, h => by
    simp only [tokRows] at h
    have rec' : lookO (tokRows s l) T = some hc → _ := fun h => tokRows_some s l T hc h
    cases ht : isTip (keepTag s (ptok p) (plc s p)) with
    | true =>
      rw [ht, cond_true, lookO_cons] at h
      by_cases e : ptok p = T
      · rw [if_pos e] at h
        cases h
        exact ⟨p, by simp, e.symm, rfl, ht⟩
      · rw [if_neg e] at h
        obtain ⟨q, q1, q2⟩ := rec' h
        exact ⟨q, by simp [q1], q2⟩
    | false =>
      rw [ht, cond_false] at h
      obtain ⟨q, q1, q2⟩ := rec' h
      exact ⟨q, by simp [q1], q2⟩
theorem tokRows_mem (s : St) : ∀ (l : List (Bool × Nat)) (p : Bool × Nat), p ∈ l → isTip (keepTag s (ptok p) (plc s p)) = true → lookO (tokRows s l) (ptok p) = some (.tok 0)
  | q :: l, p, hp, ht => by
    simp only [tokRows]
    rcases List.mem_cons.1 hp with rfl | hp'
    · rw [ht, cond_true, lookO_cons, if_pos rfl]
    · cases hq : isTip (keepTag s (ptok q) (plc s q)) with
      | true =>
        rw [cond_true, lookO_cons]
        by_cases e : ptok q = ptok p
        · rw [if_pos e]
        · rw [if_neg e]; exact tokRows_mem s l p hp' ht
      | false => rw [cond_false]; exact tokRows_mem s l p hp' ht
  | [], _, hp, _ => by cases hp

theorem apartAll_spec (s : St) : ∀ (l : List (Bool × Nat)) (used : List Nat), apartAll s l used = true → (∀ p ∈ l, ∀ T ∈ tokOf s (plc s p), T ∉ used) ∧ ∀ p1 ∈ l, ∀ p2 ∈ l, p1 ≠ p2 → ∀ T ∈ tokOf s (plc s p1), T ∉ tokOf s (plc s p2)
  | [], _, _ => ⟨fun _ h => (by cases h), fun _ h => (by cases h)⟩
  | p :: l, used, h => by
    simp only [apartAll, Bool.and_eq_true, Bool.not_eq_true'] at h
    obtain ⟨h1, h2⟩ := apartAll_spec s l _ h.2
    refine ⟨fun q hq T hT => ?_, fun p1 hp1 p2 hp2 hne T hT => ?_⟩
    · rcases List.mem_cons.1 hq with rfl | hq
      · exact meet_spec h.1 T hT
      · exact fun hu => h1 q hq T hT (List.mem_append_right _ hu)
    · rcases List.mem_cons.1 hp1 with e1 | hp1'
      · rcases List.mem_cons.1 hp2 with e2 | hp2'
        · exact absurd (e1.trans e2.symm) hne
        · subst e1
          exact fun hT2 => h1 p2 hp2' T hT2 (List.mem_append_left _ hT)
      · rcases List.mem_cons.1 hp2 with e2 | hp2'
        · subst e2
          exact fun hT2 => h1 p1 hp1' T hT (List.mem_append_left _ hT2)
        · exact h2 p1 hp1' p2 hp2' hne T hT

theorem keepBoxes_spec (s : St) : ∀ (l : List Nat) (h : List (Nat × HC)), keepBoxes s l = some h →
    (∀ id hc, lookO h id = some hc → id ∈ l ∧ ∃ n fz c, hc = .box 0 fz (keepCon s (btok id) c) ∧ lookO s.heap id = some (.box n fz c) ∧ boxable c = true) ∧ ∀ id ∈ l, ∃ hc, lookO h id = some hc
  | [], h, hk => by cases hk; exact ⟨fun id hc hv => (by cases hv), fun id hid => (by cases hid)⟩
  | k :: l, h, hk => by
    simp only [keepBoxes] at hk
    split at hk
    · rename_i n fz c hl
      cases hb : boxable c with
      | false => rw [hb] at hk; cases hk
      | true =>
        rw [hb, cond_true, Option.map_eq_some_iff] at hk
        obtain ⟨h', hrec, rfl⟩ := hk
        obtain ⟨q1, q2⟩ := keepBoxes_spec s l h' hrec
        refine ⟨fun id hc hv => ?_, fun id hid => ?_⟩
        · rw [lookO_cons] at hv
          by_cases e : k = id
          · rw [if_pos e] at hv
            cases hv
            subst e
            exact ⟨by simp, n, fz, c, rfl, hl, hb⟩
          · rw [if_neg e] at hv
            obtain ⟨r1, r2⟩ := q1 id hc hv
            exact ⟨by simp [r1], r2⟩
        · rw [lookO_cons]
          by_cases e : k = id
          · rw [if_pos e]; exact ⟨_, rfl⟩
          · rw [if_neg e]
            rcases List.mem_cons.1 hid with rfl | hid
            · exact absurd rfl e
            · exact q2 id hid
    · cases hk

theorem lookO_keys {α : Type} (f : Nat → α) : ∀ (l : List Nat) (t : Nat) (v : α), lookO (l.map fun k => (k, f k)) t = some v → t ∈ l ∧ v = f t
  | [], _, _, h => by cases h
  | k :: l, t, v, h => by
    rw [List.map_cons, lookO_cons] at h
    by_cases e : k = t
    · rw [if_pos e] at h
      cases h
      exact ⟨by simp [e], by rw [e]⟩
    · rw [if_neg e] at h
      obtain ⟨p, q⟩ := lookO_keys f l t v h
      exact ⟨by simp [p], q⟩

theorem mem_places {ks : List Nat × List Nat} {p : Bool × Nat} : p ∈ places ks ↔ (p.1 = true ∧ p.2 ∈ ks.1) ∨ (p.1 = false ∧ p.2 ∈ ks.2) := by
  obtain ⟨b, k⟩ := p
  unfold places
  cases b <;> simp

/-- The place of a right's name. -/
def pof (T : Nat) : Bool × Nat := if T < 200000 then (true, T - 100000) else (false, T - 200000)
theorem ptok_true (k : Nat) : ptok (true, k) = k + 100000 := rfl
theorem ptok_false (k : Nat) : ptok (false, k) = k + 200000 := rfl
theorem pof_true {k : Nat} (h : k < 100000) : pof (ptok (true, k)) = (true, k) := by
  rw [ptok_true]; unfold pof
  rw [if_pos (by omega), Nat.add_sub_cancel]
theorem pof_false (k : Nat) : pof (ptok (false, k)) = (false, k) := by
  rw [ptok_false]; unfold pof
  rw [if_neg (by omega), Nat.add_sub_cancel]
theorem ptok_ge (p : Bool × Nat) : 100000 ≤ ptok p := by
  obtain ⟨b, k⟩ := p
  cases b
  · rw [ptok_false]; omega
  · rw [ptok_true]; omega

/-- At a loop's head. -/
theorem Inv.keep {P : Program} {N : Nat} {F : Fr} {g : Gs} {s s' : St} {a : Act} {w : World} (hinv : Inv P N F g s a w) {ks : List Nat × List Nat} (h : s.keep ks = some s') : ∃ g', g'.G = g.G ∧ Inv P N F g' s' a w := by
  unfold St.keep at h
  split at h
  · rename_i kh hkh
    simp only at h
    generalize hka : (ks.1.map fun k => (k, keepTag s (tokId k) (look .poison s.slots k))) = ka at h
    cases hb : apartAll s (places ks) [] && ((ka.all (ptrIn ks.2) && kh.all (boxPtrIn ks.2)) && ((ks.1.all (fun k => Nat.blt k 100000) && ks.2.all (fun k => Nat.blt k 100000)) && (nodup ks.1 && nodup ks.2))) with
    | false => rw [hb] at h; cases h
    | true =>
      rw [hb, cond_true] at h
      cases h
      simp only [Bool.and_eq_true, List.all_eq_true] at hb
      obtain ⟨hap, ⟨hptr, hbptr⟩, ⟨hids1, hids⟩, _⟩ := hb
      have hidlt1 : ∀ id ∈ ks.1, id < 100000 := fun id hid => by simpa using hids1 id hid
      have hidlt : ∀ id ∈ ks.2, id < 100000 := fun id hid => by simpa using hids id hid
      have s1 : ∀ t v, lookO ka t = some v → t ∈ ks.1 ∧ v = keepTag s (tokId t) (look .poison s.slots t) := fun t v hv => by
        rw [← hka] at hv
        exact lookO_keys (fun k => keepTag s (tokId k) (look .poison s.slots k)) ks.1 t v hv
      obtain ⟨t1, t2⟩ := keepBoxes_spec s ks.2 kh hkh
      obtain ⟨_, s5⟩ := apartAll_spec s _ _ hap
      generalize hkb : tokRows s (places ks) = kb
      have b1 := tokRows_some s (places ks)
      have b2 := tokRows_mem s (places ks)
      rw [hkb] at b1 b2
      have hpof : ∀ p ∈ places ks, pof (ptok p) = p := by
        intro p hp
        obtain ⟨b, k⟩ := p
        rcases mem_places.1 hp with ⟨q1, q2⟩ | ⟨q1, q2⟩
        · have q1 : b = true := q1
          subst q1
          exact pof_true (hidlt1 k q2)
        · have q1 : b = false := q1
          subst q1
          exact pof_false k
      -- the rows of the new heap
      have lookBox : ∀ id, id < 100000 → lookO (kb ++ kh) id = lookO kh id := by
        intro id hid
        rw [lookO_append]
        cases hl : lookO kb id with
        | none => rfl
        | some hc =>
          obtain ⟨p, hp, h2, _⟩ := b1 id hc hl
          have := ptok_ge p
          omega
      have lookTok : ∀ p ∈ places ks, isTip (keepTag s (ptok p) (plc s p)) = true → lookO (kb ++ kh) (ptok p) = some (.tok 0) := by
        intro p hp ht
        rw [lookO_append, b2 p hp ht]; rfl
      have boxIn : ∀ id n fz c, lookO (kb ++ kh) id = some (.box n fz c) → id ∈ ks.2 ∧ n = 0 ∧ ∃ m c0, lookO s.heap id = some (.box m fz c0) ∧ boxable c0 = true ∧ c = keepCon s (btok id) c0 := by
        intro id n fz c hl
        rw [lookO_append] at hl
        cases hlb : lookO kb id with
        | some hc =>
          obtain ⟨k, _, _, h3, _⟩ := b1 id hc hlb
          rw [hlb, h3] at hl
          cases hl
        | none =>
          rw [hlb, Option.none_or] at hl
          obtain ⟨q1, m, fz', c0, q2, q3, q4⟩ := t1 id _ hl
          cases q2
          exact ⟨q1, rfl, m, c0, q3, q4, rfl⟩
      have tokIn : ∀ T n, lookO (kb ++ kh) T = some (.tok n) → ∃ p ∈ places ks, T = ptok p ∧ n = 0 ∧ isTip (keepTag s (ptok p) (plc s p)) = true := by
        intro T n hl
        rw [lookO_append] at hl
        cases hlb : lookO kb T with
        | some hc =>
          obtain ⟨p, h1, h2, h3, h4⟩ := b1 T hc hlb
          rw [hlb, h3] at hl
          cases hl
          exact ⟨p, h1, h2, rfl, h4⟩
        | none =>
          rw [hlb, Option.none_or] at hl
          obtain ⟨q1, m, fz', c0, q2, q3, q4⟩ := t1 T _ hl
          cases q2
      -- the number of a variable, and the value at a place
      let cur : Nat → Nat := fun id => match lookO s.heap id with | some (.box m _ _) => m | _ => 0
      have hcur : ∀ id m fz c, lookO s.heap id = some (.box m fz c) → cur id = m := fun id m fz c hl => by simp [cur, hl]
      let esz : S → Nat := fun v => match v with | .lst _ e _ => e.size | _ => 0
      let plv : Bool × Nat → Value := fun p => match p with
        | (true, k) => a.tmps.getD k undef
        | (false, k) => match w.heap[g.ι k (cur k)]? with
          | some (.cells cs _ _) => match lookO s.heap k with
            | some (.box _ _ (.fat τ _ π _ _ _)) => cs.toList.getD (pathOff π τ) undef
            | _ => cs.toList.headD undef
          | _ => undef
      let g' : Gs := ⟨g.G, fun id _ => g.ι id (cur id), fun T => if T < 100000 then g.ov T else (plv (pof T), esz (plc s (pof T))), g.yl⟩
      have hov : ∀ p ∈ places ks, g'.ov (ptok p) = (plv p, esz (plc s p)) := fun p hp => by have := ptok_ge p; simp only [g']; rw [if_neg (by omega), hpof p hp]
      -- what lies at a place, where it is a list
      have hplace : ∀ p ∈ places ks, ∀ k e x, plc s p = .lst k e x → SRel0 P s.heap g w (plc s p) (plv p) := by
        intro p hp k e x hpl
        obtain ⟨b, t⟩ := p
        cases b with
        | true =>
          have := hinv.slots t
          rw [show plc s (true, t) = look .poison s.slots t from rfl] at hpl ⊢
          rw [hpl] at this ⊢
          exact this
        | false =>
          simp only [plc] at hpl ⊢
          split at hpl
          · rename_i m fz c hl
            cases c with
            | lst k' e' x' =>
              obtain ⟨cs, et, q1, q2, _⟩ : ∃ cs et, _ ∧ _ ∧ _ := (hinv.heap.box t m fz _ hl).con rfl
              obtain ⟨v, q3, q4⟩ := q2
              have hv : plv (false, t) = v := by
                simp only [plv, hcur t m fz _ hl, q1, hl, q3, List.headD_cons]
              rw [hv]
              exact q4
            | fat τ x π k' e' ys =>
              obtain ⟨cs, et, q1, q2, _⟩ : ∃ cs et, _ ∧ _ ∧ _ := (hinv.heap.box t m fz _ hl).con rfl
              obtain ⟨_, _, _, v, q3, q4⟩ := q2
              have hv : plv (false, t) = v := by
                simp only [plv, hcur t m fz _ hl, q1, hl, List.getD_eq_getElem?_getD, q3, Option.getD_some]
              rw [hv]
              exact q4
            | _ => cases hpl
          · cases hpl
      -- a value that is kept
      have tagRel : ∀ p ∈ places ks, ∀ v, (∀ k e x, plc s p = .lst k e x → v = plv p) → SRel P s.heap g w (plc s p) v → (∀ id n root π, keepTag s (ptok p) (plc s p) = .ptr id n root π → id ∈ ks.2) → (∀ id n e, keepTag s (ptok p) (plc s p) = .vec id n e → id ∈ ks.2) → SRel P (kb ++ kh) g' w (keepTag s (ptok p) (plc s p)) v := by
        intro p hp v hv hold hid hidv
        have htok := lookTok p hp
        have hovp := hov p hp
        generalize hu : plc s p = u at *
        unfold keepTag at htok hid hidv ⊢
        split
        · rename_i e x
          obtain ⟨hr, ao, n, hn⟩ := hold
          exact SRel.of0 ⟨hr, 0, htok rfl, Nat.le_refl _, fun _ => by rw [hovp, hv _ _ _ rfl]⟩
        · rename_i T n e x
          obtain ⟨hr, m, hm, hle, hovT⟩ := hold
          simp only [hm] at htok ⊢
          cases hb : Nat.beq m n with
          | true =>
            rw [hb] at htok
            exact SRel.of0 ⟨hr, 0, htok rfl, Nat.le_refl _, fun _ => by rw [hovp, hv _ _ _ rfl]⟩
          | false => exact SRel.of0 hr
        · rename_i id n root π
          split
          · rename_i q hbox
            obtain ⟨m, fz, c, h1, h2, h3, h4⟩ := hold
            obtain ⟨fz', c'⟩ := q
            have hb2 := box_spec hbox
            have hid := hid id 0 root π (by simp only [hbox])
            obtain ⟨hc, hhc⟩ := t2 id hid
            obtain ⟨_, m', fz'', c0, q2, q3, q4⟩ := t1 id hc hhc
            subst q2
            refine SRel.of0 ⟨0, fz'', _, by rw [lookBox id (hidlt id hid)]; exact hhc, Nat.le_refl _, h3, ?_⟩
            rw [h4]
            have : g'.ι id 0 = g.ι id n := by simp only [g']; rw [hcur id n fz' c' hb2]
            rw [this]
          · exact SRel.of0 (s := .poison) trivial
        · rename_i id n e
          split
          · rename_i q hbox
            obtain ⟨m, fz, c, h1, h2, h3⟩ := hold
            obtain ⟨fz', c'⟩ := q
            have hb2 := box_spec hbox
            have hid := hidv id 0 e (by simp only [hbox])
            obtain ⟨hc, hhc⟩ := t2 id hid
            obtain ⟨_, m', fz'', c0, q2, q3, q4⟩ := t1 id hc hhc
            subst q2
            rw [hb2] at h1
            cases h1
            rw [hb2] at q3
            cases q3
            obtain ⟨⟨k, hk⟩, hvv⟩ := h3 rfl
            refine SRel.of0 (s := .vec id 0 e) ⟨0, fz, keepCon s (btok id) c, by rw [lookBox id (hidlt id hid)]; exact hhc, Nat.le_refl _, fun _ => ⟨⟨k, ?_⟩, ?_⟩⟩
            · cases c with
              | row e xs => exact hk
              | _ => cases hk
            · rw [hvv]; simp only [g']; rw [if_pos (hidlt id hid)]
          · exact SRel.of0 (s := .poison) trivial
        · exact SRel.of0 (s := .poison) trivial
        · exact SRel.of0 (s := .poison) trivial
        · exact SRel.of0 (s := .poison) trivial
        · exact SRel.of0 (s := .poison) trivial
        · exact SRel.of0 (s := .poison) trivial
        · rename_i hn1 hn2 hn3 hn4 hn5 hn6 hn7 hn8 hn9
          cases u with
          | lst k e x => cases k with
            | clip => exact absurd rfl (hn1 _ _)
            | nn => exact hold
            | tip T n => exact absurd rfl (hn2 _ _ _ _)
          | ptr id n root π => exact absurd rfl (hn3 _ _ _ _)
          | vec id n e => exact absurd rfl (hn4 _ _ _)
          | eptr id n e i π => exact absurd rfl (hn5 _ _ _ _ _)
          | vsub id n e lo => exact absurd rfl (hn6 _ _ _ _)
          | once id n => exact absurd rfl (hn7 _ _)
          | inn es xs => exact absurd rfl (hn8 _ _)
          | tup l => exact absurd rfl (hn9 _)
          | _ => exact hold
      -- the slice of a right
      have htip : ∀ p ∈ places ks, isTip (keepTag s (ptok p) (plc s p)) = true → (∃ ao n, plv p = .slice ao n n) ∨
          ∃ T n e x m, plc s p = .lst (.tip T n) e x ∧ lookO s.heap T = some (.tok m) ∧ g.ov T = (plv p, e.size) ∧ T ∈ tokOf s (plc s p) := by
        intro p hp ht
        obtain ⟨T0, n0, e0, x0, hex⟩ := isTip_spec ht
        have hpl := hplace p hp
        generalize hu : plc s p = u at *
        unfold keepTag at hex
        split at hex
        · obtain ⟨hr, ao, n, hn⟩ := hpl _ _ _ rfl
          exact .inl ⟨ao, n, hn⟩
        · rename_i T n e x
          obtain ⟨hr, m, hm, hle, hovT⟩ := hpl _ _ _ rfl
          simp only [hm] at hex
          cases hb : Nat.beq m n with
          | true =>
            have hmn := Nat.eq_of_beq_eq_true hb
            refine .inr ⟨T, n, e, x, m, rfl, hm, hovT hmn, ?_⟩
            simp [tokOf, hm, hb]
          | false => rw [hb] at hex; cases hex
        · split at hex <;> cases hex
        · split at hex <;> cases hex
        · cases hex
        · cases hex
        · cases hex
        · cases hex
        · cases hex
        · rename_i hn1 hn2 hn3 hn4 hn5 hn6 hn7 hn8 hn9
          exact absurd hex (hn2 _ _ _ _)
      refine ⟨g', rfl, fun t => ?_, hinv.size, hinv.defers, ⟨?_, ?_, ?_, ?_⟩, hinv.stp, hinv.lv, hinv.mt, hinv.hB, hinv.objs, hinv.pin, hinv.yl, hinv.hp, hinv.hrd, hinv.lv0⟩
      · show SRel P (kb ++ kh) g' w (look .poison ka t) (a.tmps.getD t undef)
        rw [look_lookO]
        cases hl : lookO ka t with
        | none => exact SRel.of0 (s := .poison) trivial
        | some v =>
          obtain ⟨ht, hv⟩ := s1 t v hl
          have hp : (true, t) ∈ places ks := mem_places.2 (.inl ⟨rfl, ht⟩)
          have hmem := hptr _ (lookO_mem hl)
          simp only [Option.getD_some]
          subst hv
          refine tagRel (true, t) hp _ (fun _ _ _ _ => rfl) (hinv.slots t) (fun id n root π hk => ?_) (fun id n e hk => ?_)
          · have hk' : keepTag s (tokId t) (look .poison s.slots t) = .ptr id n root π := hk
            rw [hk'] at hmem
            exact mem_iff.1 hmem
          · have hk' : keepTag s (tokId t) (look .poison s.slots t) = .vec id n e := hk
            rw [hk'] at hmem
            exact mem_iff.1 hmem
      · intro id n fz c hl
        obtain ⟨hid, rfl, m, c0, h1, hbx, h2⟩ := boxIn id n fz c hl
        have hιeq : g'.ι id 0 = g.ι id m := by simp only [g']; rw [hcur id m fz c0 h1]
        have hp : (false, id) ∈ places ks := mem_places.2 (.inr ⟨rfl, hid⟩)
        have hpl : plc s (false, id) = plcOf c0 := by simp only [plc, h1]
        cases hrw : conC c0 with
        | false =>
          cases c0 with
          | row e xs =>
            have hb : OwnRel g.G w F.m F.B fz (g.ι id m) e xs (g.ov id).1 := hinv.heap.box id m fz _ h1
            rw [h2]
            show OwnRel g.G w F.m F.B fz (g'.ι id 0) e xs (g'.ov id).1
            rw [hιeq]
            simp only [g']
            rw [if_pos (hidlt id hid)]
            exact hb
          | inn es xs => cases hbx
          | _ => cases hrw
        | true =>
        obtain ⟨cs, et, q1, q2, q3⟩ := (hinv.heap.box id m fz c0 h1).con hrw
        refine BoxRel.of_con ⟨cs, et, by rw [hιeq]; exact q1, ?_, by rw [hιeq]; exact q3⟩
        rw [h2]
        cases c0 with
        | dat τ x => exact q2
        | lst k e x =>
          have hpl : plc s (false, id) = .lst k e x := hpl
          obtain ⟨v, r1, r2⟩ := q2
          have hv : v = plv (false, id) := by simp only [plv, hcur id m fz _ h1, q1, h1, r1, List.headD_cons]
          have hk := tagRel (false, id) hp v (fun _ _ _ _ => hv) (by rw [hpl]; exact SRel.of0 r2) (fun id' n root π hk => by
            rw [hpl] at hk
            cases k <;> simp only [keepTag] at hk
            · cases hk
            · split at hk
              · rename_i mm hb
                cases hbb : Nat.beq mm _ with
                | true => rw [hbb] at hk; cases hk
                | false => rw [hbb] at hk; cases hk
              · cases hk
            · cases hk) (fun id' n e' hk => by
            rw [hpl] at hk
            cases k <;> simp only [keepTag] at hk
            · cases hk
            · split at hk
              · rename_i mm hb
                cases hbb : Nat.beq mm _ with
                | true => rw [hbb] at hk; cases hk
                | false => rw [hbb] at hk; cases hk
              · cases hk
            · cases hk)
          rw [hpl] at hk
          have hk : SRel P (kb ++ kh) g' w (keepTag s (btok id) (.lst k e x)) v := hk
          have hrep : RepV g.G w (.slc e) x v := by cases k <;> exact r2.1
          have hdat : ConRel P (kb ++ kh) g' w (.dat (.slc e) x) cs.toList := by
            have hcells := RepV.cells hrep
            obtain ⟨ao, cap, ev, _⟩ := RepV.slc hrep
            have : v.cells.toList = [v] := by rw [ev]; rfl
            rw [this] at hcells
            show Rep g.G w (.slc e) x cs.toList
            rw [r1]; exact hcells
          rw [keepCon_of (by intros; simp)]
          cases k with
          | clip => exact ⟨v, r1, hk⟩
          | nn => exact ⟨v, r1, hk⟩
          | tip T n =>
            simp only [keepTag] at hk ⊢
            split
            · rename_i mm hmm
              simp only [hmm] at hk
              cases hb : Nat.beq mm n with
              | true => rw [hb] at hk; exact ⟨v, r1, hk⟩
              | false => exact hdat
            · exact hdat
        | fn ps rs f => exact q2
        | seq es xs => exact q2
        | yld es => exact q2
        | ptr id' n' root' π' =>
          have hpl : plc s (false, id) = .ptr id' n' root' π' := hpl
          obtain ⟨v, r1, r2⟩ := q2
          have hmem : boxPtrIn ks.2 (id, .box 0 fz c) = true := by
            have hl' := hl
            rw [lookBox id (hidlt id hid)] at hl'
            exact hbptr _ (lookO_mem hl')
          rw [h2, keepCon_of (by intros; simp)] at hmem
          rw [keepCon_of (by intros; simp)]
          have hk := tagRel (false, id) hp v (fun k e x he => by rw [hpl] at he; cases he) (by rw [hpl]; exact SRel.of0 r2) (fun id1 n1 root1 π1 hk => by
            rw [hpl] at hk
            have hk : keepTag s (btok id) (.ptr id' n' root' π') = .ptr id1 n1 root1 π1 := hk
            rw [hk] at hmem
            exact mem_iff.1 hmem) (fun id1 n1 e1 hk => by
            rw [hpl] at hk
            simp only [keepTag] at hk
            split at hk <;> cases hk)
          rw [hpl] at hk
          have hk : SRel P (kb ++ kh) g' w (keepTag s (btok id) (.ptr id' n' root' π')) v := hk
          revert hk hmem
          generalize hkt : keepTag s (btok id) (.ptr id' n' root' π') = kt
          intro hmem hk
          have hsh : kt = .poison ∨ ∃ id1 n1 root1 π1, kt = .ptr id1 n1 root1 π1 := by
            rw [← hkt]
            simp only [keepTag]
            split
            · exact .inr ⟨_, _, _, _, rfl⟩
            · exact .inl rfl
          rcases hsh with rfl | ⟨id1, n1, root1, π1, rfl⟩
          · exact Bool.noConfusion (show false = true from hmem)
          · exact ⟨v, r1, hk⟩
        | row e xs => cases hrw
        | fat τ x π k e ys =>
          have hpl : plc s (false, id) = .lst k e ys := hpl
          obtain ⟨r0, r1, r2, v, r3, r4⟩ := q2
          have hv : v = plv (false, id) := by simp only [plv, hcur id m fz _ h1, q1, h1, List.getD_eq_getElem?_getD, r3, Option.getD_some]
          have hk := tagRel (false, id) hp v (fun _ _ _ _ => hv) (by rw [hpl]; exact SRel.of0 r4) (fun id' n root π hk => by
            rw [hpl] at hk
            cases k <;> simp only [keepTag, plcOf] at hk
            · cases hk
            · split at hk
              · rename_i mm hb
                cases hbb : Nat.beq mm _ with
                | true => rw [hbb] at hk; cases hk
                | false => rw [hbb] at hk; cases hk
              · cases hk
            · cases hk) (fun id' n e' hk => by
            rw [hpl] at hk
            cases k <;> simp only [keepTag, plcOf] at hk
            · cases hk
            · split at hk
              · rename_i mm hb
                cases hbb : Nat.beq mm _ with
                | true => rw [hbb] at hk; cases hk
                | false => rw [hbb] at hk; cases hk
              · cases hk
            · cases hk)
          rw [hpl] at hk
          have hk : SRel P (kb ++ kh) g' w (keepTag s (btok id) (.lst k e ys)) v := hk
          show ConRel P (kb ++ kh) g' w (match keepTag s (btok id) (.lst k e ys) with | .lst g' _ _ => .fat τ x π g' e ys | _ => .dat τ x) cs.toList
          cases k with
          | clip => exact ⟨r0, r1, r2, v, r3, hk⟩
          | nn => exact ⟨r0, r1, r2, v, r3, hk⟩
          | tip T n =>
            simp only [keepTag] at hk ⊢
            split
            · rename_i g'' e'' ys'' heq
              split at heq
              · rename_i mm hmm
                simp only [hmm] at hk
                cases hb : Nat.beq mm n with
                | true =>
                  rw [hb] at hk heq
                  cases heq
                  exact ⟨r0, r1, r2, v, r3, hk⟩
                | false => rw [hb] at heq; cases heq
              · cases heq
            · exact r0
        | _ => cases hbx
      · intro T n hl
        obtain ⟨p, hp, rfl, rfl, ht⟩ := tokIn T n hl
        rcases htip p hp ht with ⟨ao, n, hn⟩ | ⟨T, n, e, x, m, h1, h2, h3, h4⟩
        · exact ⟨ao, n, n, by rw [hov p hp]; exact hn, Nat.le_refl _, .inl rfl⟩
        · obtain ⟨ao, k', c, q1, q2, q3⟩ := hinv.heap.tok T m h2
          rw [h3] at q1 q3
          refine ⟨ao, k', c, by rw [hov p hp]; exact q1, q2, ?_⟩
          rw [hov p hp, h1]
          exact q3
      · intro id n fz c id' n' fz' c' h1 h2 hne r1 r2
        obtain ⟨hi1, rfl, m, c0, q1, _, q2⟩ := boxIn id n fz c h1
        obtain ⟨hi2, rfl, m', c0', q1', _, q2'⟩ := boxIn id' n' fz' c' h2
        have hrr : ∀ (i : Nat) (u u0 : S) (T : Nat), i ∈ ks.2 → u = keepCon s T u0 → Real g' i u → Real g i u0 := by
          intro i u u0 T hi hu hr
          have hov' : g'.ov i = g.ov i := by simp only [g']; rw [if_pos (hidlt i hi)]
          cases hro : rowOf u0 with
          | none => exact .inl hro
          | some p =>
            cases u0 with
            | row e xs =>
              rw [hu] at hr
              exact hr.of hov'
            | _ => cases hro
        simp only [g']
        rw [hcur id m fz c0 q1, hcur id' m' fz' c0' q1']
        exact hinv.heap.apart _ _ _ _ _ _ _ _ q1 q1' hne (hrr id c c0 _ hi1 q2 r1) (hrr id' c' c0' _ hi2 q2' r2)
      · intro T n T' n' h1 h2 hne b hb hb'
        obtain ⟨p, hp, rfl, rfl, hex⟩ := tokIn T n h1
        obtain ⟨p', hp', rfl, rfl, hex'⟩ := tokIn T' n' h2
        have hkk : p ≠ p' := fun e => hne (by rw [e])
        rw [hov p hp] at hb
        rw [hov p' hp'] at hb'
        rcases htip p hp hex with ⟨ao, n, hn⟩ | ⟨T1, n1, e1, x1, m1, p1, p2, p3, p4⟩
        · rw [hn, roomOf] at hb
          cases ao <;> simp at hb
        · rcases htip p' hp' hex' with ⟨ao, n, hn⟩ | ⟨T2, n2, e2, x2, m2, q1, q2, q3, q4⟩
          · rw [hn, roomOf] at hb'
            cases ao <;> simp at hb'
          · have hTT : T1 ≠ T2 := fun e => s5 p hp p' hp' hkk T1 p4 (e ▸ q4)
            refine hinv.heap.rooms T1 m1 T2 m2 p2 q2 hTT b ?_ ?_
            · rw [p3]; exact hb
            · rw [q3]; exact hb'
  · cases h
end Go.Vi

/- What a loop over a function needs. -/
namespace Go.Vi
open Go.RowKit (Below)

section
variable {P : Program} {b : Frame} {a : Act} {k : List Item} {cs : List Frame} {w : World}
theorem stepR_scope {c : Code} : Go.step P (lone (b.atR a (.code (.scope c) :: k)) cs w) = .next (lone (b.atR a (.code c :: .inScope c :: k)) cs w) :=
  step_lone_go (by simp [stepG, stepG.exec, Frame.atR])
theorem stepR_inScope {c : Code} : Go.step P (lone (b.atR a (.inScope c :: k)) cs w) = .next (lone (b.atR a k) cs w) :=
  step_lone_go (by simp [stepG, stepG.exec, Frame.atR])
end

theorem wpIn_scope {F : Fence} {n : Nat} {P : Program} {c : Code} {Q : Exit → Act → World → Prop} {a : Act} {w : World} (h : c.wpIn F n P (Exit.noGoto Q) a w) : (Code.scope c).wpIn F n P Q a w := by
  intro b k cs hro hb hr
  have h0 : (lone (b.atR a (.code (.scope c) :: k)) cs w).fenced P F := fenced_calm (fr := b.atR a (.code (.scope c) :: k)) hb hr rfl
  obtain ⟨e, a₁, w₁, hq, harr⟩ := h b (.inScope c :: k) cs hro hb hr
  have h1 : (lone (b.atR a₁ (.inScope c :: k)) cs w₁).fenced P F := fenced_calm (fr := b.atR a₁ (.inScope c :: k)) hb hr rfl
  cases e with
  | normal => exact ⟨.normal, a₁, w₁, hq, .head h0 stepR_scope (StepsIn.trans harr (.one h1 stepR_inScope))⟩
  | exit id =>
    have hx : exitTo id (.inScope c :: k) = exitTo id k := by simp [exitTo]
    exact ⟨.exit id, a₁, w₁, hq, fun k' hk => .head h0 stepR_scope (harr.1 k' (by rw [hx]; exact hk)),
      fun hr' hk => let ⟨k₁, h1, h2⟩ := harr.2 hr' (by rw [hx]; exact hk); ⟨k₁, h1, .head h0 stepR_scope h2⟩⟩
  | goto l => exact hq.elim
  | ret => exact ⟨_, a₁, w₁, hq, .of_steps (.one h0 stepR_scope) harr⟩
  | panic ch => exact ⟨_, a₁, w₁, hq, .of_steps (.one h0 stepR_scope) harr⟩
  | outgrown => exact ⟨_, a₁, w₁, hq, .of_steps (.one h0 stepR_scope) harr⟩

/-! ### levels -/
def Own.lev : Own → Nat
  | .stays => 0
  | .mine j => j
  | .room j _ => j
theorem Own.upto_lev {o : Own} {t : Nat} (h : o.lev ≤ t) : o.upto t := by
  cases o with
  | stays => trivial
  | mine j => exact h
  | room j hi => exact h
theorem Lv.exists (G : Gh) (w : World) (t : Nat) : ∃ t', t ≤ t' ∧ Lv t' G w := by
  have key : ∀ n : Nat, ∃ t', t ≤ t' ∧ ∀ b, b < n → (G b).upto t' := by
    intro n
    induction n with
    | zero => exact ⟨t, Nat.le_refl _, fun b hb => (by omega)⟩
    | succ n ih =>
      obtain ⟨t', h1, h2⟩ := ih
      refine ⟨max t' (G n).lev, by omega, fun b hb => ?_⟩
      by_cases e : b = n
      · subst e; exact Own.upto_lev (by omega)
      · exact Own.upto_mono (by omega) (h2 b (by omega))
  exact key _

def Own.low (t : Nat) : Own → Own
  | .stays => .stays
  | .mine j => if j ≤ t then .mine j else .stays
  | .room j hi => if j ≤ t then .room j hi else .stays
theorem Own.low_upto (t : Nat) : ∀ o : Own, (o.low t).upto t
  | .stays => trivial
  | .mine j => by
    by_cases h : j ≤ t
    · rw [show Own.low t (.mine j) = .mine j from if_pos h]; exact h
    · rw [show Own.low t (.mine j) = .stays from if_neg h]; trivial
  | .room j hi => by
    by_cases h : j ≤ t
    · rw [show Own.low t (.room j hi) = .room j hi from if_pos h]; exact h
    · rw [show Own.low t (.room j hi) = .stays from if_neg h]; trivial
theorem Own.low_of {t : Nat} : ∀ {o : Own}, o.upto t → o.low t = o
  | .stays, _ => rfl
  | .mine j, h => by unfold Own.low; exact if_pos h
  | .room j hi, h => by unfold Own.low; exact if_pos h
def Gh.low (t : Nat) (G : Gh) : Gh := fun b => (G b).low t
theorem Gh.low_kp (t : Nat) (G : Gh) (w : World) : Kp (Own.upto t) G w (G.low t) w := by
  refine ⟨rfl, rfl, rfl, Nat.le_refl _, fun b hb hp => ⟨rfl, Own.low_of hp⟩, ⟨fun b o v hc hs => ⟨hc, ?_⟩⟩⟩
  unfold Gh.st Gh.low at *
  cases hg : G b with
  | stays => trivial
  | mine j => rw [hg] at hs; exact hs.elim
  | room j hi =>
    rw [hg] at hs
    by_cases h : j ≤ t
    · rw [show Own.low t (.room j hi) = .room j hi from if_pos h]; exact hs
    · rw [show Own.low t (.room j hi) = .stays from if_neg h]; trivial

theorem Inv.raise {P : Program} {N : Nat} {F : Fr} {t t' : Nat} {g : Gs} {s : St} {a : Act} {w : World} (h : Inv P N { F with t := t } g s a w) (ht : t ≤ t') : Inv P N { F with t := t' } g s a w :=
  ⟨h.slots, h.size, h.defers, ⟨h.heap.box, h.heap.tok, h.heap.apart, h.heap.rooms⟩, h.stp, h.lv.mono ht, Nat.le_trans h.mt ht, h.hB, h.objs, h.pin, h.yl, h.hp, h.hrd, h.lv0.mono ht⟩
theorem Inv.lower {P : Program} {N : Nat} {F : Fr} {t : Nat} {g : Gs} {s : St} {a : Act} {w : World} (h : Inv P N { F with t := t } g s a w) (hm : F.m ≤ F.t) (h0 : Lv F.t F.G F.w) : Inv P N F ⟨g.G.low F.t, g.ι, g.ov, g.yl⟩ s a w := by
  have h1 := Inv.kp h (Gh.low_kp F.t g.G w) trivial hm (fun _ => hm) (fun b hb _ => h0 b hb) (fun b hb => by
    have := h.lv b hb
    show ((g.G b).low F.t).upto t
    cases hg : g.G b with
    | stays => trivial
    | mine j =>
      rw [hg] at this
      by_cases h : j ≤ F.t
      · rw [show Own.low F.t (.mine j) = .mine j from if_pos h]; exact this
      · rw [show Own.low F.t (.mine j) = .stays from if_neg h]; trivial
    | room j hi =>
      rw [hg] at this
      by_cases h : j ≤ F.t
      · rw [show Own.low F.t (.room j hi) = .room j hi from if_pos h]; exact this
      · rw [show Own.low F.t (.room j hi) = .stays from if_neg h]; trivial)
  exact ⟨h1.slots, h1.size, h1.defers, ⟨h1.heap.box, h1.heap.tok, h1.heap.apart, h1.heap.rooms⟩, h1.stp, fun b hb => Own.low_upto _ _, hm, h1.hB, h1.objs, h1.pin, h1.yl, h1.hp, h1.hrd, h0⟩

/-! ### the record of a loop -/
theorem row_of_cell {w : World} {b o : Nat} {v : Value} (h : Cell w b o = some v) : ∃ ob : Obj, w.heap[b]? = some ob ∧ isRow ob = true := by
  obtain ⟨ob, h1, h2⟩ := cells_of_cell (W := w) (a := ⟨b, o, none⟩) h
  exact ⟨ob, h1, by cases ob <;> simp_all [Obj.isCells, isRow]⟩
theorem Kp.putObj {p : Own → Prop} {G : Gh} {w : World} {l : Nat} {o o' : Obj} (hl : w.heap[l]? = some o) (ho : isRow o = false) (hp : ¬ p (G l)) : Kp p G w G (w.putObj l o') := by
  refine ⟨rfl, rfl, rfl, by simp, fun b hb hpb => ⟨World.putObj_heap_other (fun e => hp (e ▸ hpb)), rfl⟩, ⟨fun b oo v hc hs => ⟨?_, hs⟩⟩⟩
  have hne : b ≠ l := by
    intro e
    obtain ⟨ob, h1, h2⟩ := row_of_cell hc
    rw [e, hl] at h1
    cases h1
    rw [ho] at h2; cases h2
  rw [Cell.of_block (World.putObj_heap_other hne)]; exact hc

/-- Only what is no row of cells has changed. -/
theorem HeapRel.rows {P : Program} {H : Heap} {g : Gs} {w w' : World} {F : Fr} (h : HeapRel P H g w F) (hr : ∀ (b : Nat) (cs : Array Value) (et : TypeId) (fz : Nat × Nat), w.heap[b]? = some (.cells cs et fz) → w'.heap[b]? = some (.cells cs et fz)) (ha : Adv g.G w g.G w') : HeapRel P H g w' F := by
  refine ⟨fun id n fz c hl => ?_, fun T n hl => ?_, h.apart, h.rooms⟩
  · refine (h.box id n fz c hl).step (Ext.refl _ _) ha rfl rfl fun hreal hlt => ?_
    obtain ⟨cs, et, h1, h3⟩ := (h.box id n fz c hl).block hreal
    exact ⟨(hr _ _ _ _ h1).trans h1.symm, rfl⟩
  · obtain ⟨ao, m, c, h1, h2, h3⟩ := h.tok T n hl
    refine ⟨ao, m, c, h1, h2, ?_⟩
    rcases h3 with h3 | ⟨b, o1, cur, et, h4, h5, h6, h7, h8⟩
    · exact .inl h3
    · exact .inr ⟨b, o1, cur, et, h4, h5, h6, hr _ _ _ _ h7, h8⟩

/-- An object of the frame's, beside the rows, is turned. -/
theorem Inv.putObj {P : Program} {N : Nat} {F : Fr} {g : Gs} {s : St} {a : Act} {w : World} {l : Nat} {o o' : Obj} {O O' : List (Nat × Obj)} {ds : List Deferred} (h : Inv P N F g s a w) (hl : w.heap[l]? = some o) (ho : isRow o = false) (hlm : g.G l = .mine F.m)
    (hd : Marks F.m ds g.G (w.putObj l o')) (hO : ∀ l' o'', (l', o'') ∈ O' → (w.putObj l o').heap[l']? = some o'' ∧ isRow o'' = false ∧ g.G l' = .mine F.m) (hrd : ∀ l, F.rd = some l → ∃ r, (l, Obj.loop r) ∈ O') :
    Inv P N { F with objs := O' } g s { a with defers := ds } (w.putObj l o') := by
  have hnp : ¬ F.p (g.G l) := fun hp => by rw [hlm] at hp; exact h.hp _ hp rfl
  have hk : Kp F.p g.G w g.G (w.putObj l o') := Kp.putObj hl ho hnp
  refine ⟨fun t => (h.slots t).ext (Ext.refl _ _) hk.adv, h.size, hd, ?_, h.stp.trans hk, fun b hb => h.lv b (by simpa using hb), h.mt, by simpa using h.hB, hO, h.pin, h.yl, h.hp, hrd, h.lv0⟩
  have := h.heap.rows (w' := w.putObj l o') (fun b cs et fz hb => by
    have hne : b ≠ l := by
      intro e
      rw [e, hl] at hb
      cases hb
      cases ho
    rw [World.putObj_heap_other hne]; exact hb) hk.adv
  exact ⟨this.box, this.tok, this.apart, this.rooms⟩

theorem Marks.lt {m : Nat} {ds : List Deferred} {G : Gh} {w : World} (h : Marks m ds G w) : ∃ O : List (Nat × Obj), (∀ p ∈ O, p.2 = .deferred (some [])) ∧ (∀ l o, (l, o) ∈ O → w.heap[l]? = some o ∧ isRow o = false ∧ G l = .mine m) ∧
    ∀ G' w', (∀ l o, (l, o) ∈ O → w'.heap[l]? = some o ∧ isRow o = false ∧ G' l = .mine m) → Marks m ds G' w' := by
  obtain ⟨Ds, h1, h2, h3⟩ := h
  refine ⟨Ds.map fun D => (D, .deferred (some [])), fun p hp => ?_, fun l o hl => ?_, fun G' w' hh => ⟨Ds, h1, h2, fun D hD => ?_⟩⟩
  · obtain ⟨D, _, rfl⟩ := List.mem_map.1 hp; rfl
  · obtain ⟨D, hD, e⟩ := List.mem_map.1 hl
    cases e
    obtain ⟨q1, q2⟩ := h3 _ hD
    exact ⟨q1, rfl, q2⟩
  · obtain ⟨q1, _, q2⟩ := hh D (.deferred (some [])) (List.mem_map.2 ⟨D, hD, rfl⟩)
    exact ⟨q1, q2⟩

/-- A loop over a function is entered. -/
theorem Inv.enter {P : Program} {N : Nat} {F : Fr} {g : Gs} {s : St} {a : Act} {w : World} (h : Inv P N F g s a w) (fn : FuncId) (ps : Array Tmp) (assign body : Code) :
    ∃ l mk d0 W1 G1, (Instr.enterLoop fn a.tmps ps assign body F.rd).run P w = .ok (l, mk) W1 ∧ W1.heap[l]? = some (.loop { state := .ready, pending := none, fn, tmps := a.tmps, params := ps, assign, body, defers := d0 }) ∧ G1 l = .mine F.m ∧
      w.heap.size ≤ l ∧ Fwd g.G w G1 W1 ∧ (∀ k, w.heap.size ≤ k → G1 k = .mine F.m) ∧ Inv P N F ⟨G1, g.ι, g.ov, g.yl⟩ s { a with defers := mk ++ a.defers } W1 := by
  have fin : ∀ (l : Nat) (mk : List Deferred) (W1 : World), Below w.heap.size w W1 → (∀ b, w.heap.size ≤ b → b < W1.heap.size → True) →
      (∀ (G1 : Gh), (∀ b, w.heap.size ≤ b → G1 b = .mine F.m) → (∀ b, b < w.heap.size → G1 b = g.G b) → Marks F.m a.defers G1 W1 → Marks F.m (mk ++ a.defers) G1 W1) → w.heap.size ≤ l →
      ∃ G1 : Gh, G1 l = .mine F.m ∧ w.heap.size ≤ l ∧ Fwd g.G w G1 W1 ∧ (∀ k, w.heap.size ≤ k → G1 k = .mine F.m) ∧ Inv P N F ⟨G1, g.ι, g.ov, g.yl⟩ s { a with defers := mk ++ a.defers } W1 := by
    intro l mk W1 hb _ hmk hl
    let G1 : Gh := fun b => if b < w.heap.size then g.G b else .mine F.m
    have e1 : ∀ b, b < w.heap.size → G1 b = g.G b := fun b hb => if_pos hb
    have e2 : ∀ b, w.heap.size ≤ b → G1 b = .mine F.m := fun b hb => if_neg (by omega)
    have hf : Fwd g.G w G1 W1 := ⟨hb, e1⟩
    obtain ⟨q1, q2⟩ := HeapRel.fwd h hf
    refine ⟨G1, e2 l hl, hl, hf, e2, fun t => (h.slots t).ext q2 hf.adv, h.size, hmk G1 e2 e1 (h.defers.nc hf.nc), q1, h.stp.trans (hf.kp _), fun b hb => ?_, h.mt, Nat.le_trans h.hB hb.size, fun l o hl => ?_, h.pin, h.yl, h.hp, h.hrd, h.lv0⟩
    · by_cases e : b < w.heap.size
      · rw [show (⟨G1, g.ι, g.ov, g.yl⟩ : Gs).G b = g.G b from e1 b e]; exact h.lv b e
      · rw [show (⟨G1, g.ι, g.ov, g.yl⟩ : Gs).G b = .mine F.m from e2 b (by omega)]; exact h.mt
    · obtain ⟨p, q, r⟩ := h.objs l o hl
      obtain ⟨p', r'⟩ := hf.nc l _ p q
      exact ⟨p', q, r'.trans r⟩
  cases hrd : F.rd with
  | none =>
    have hb : Below w.heap.size w ((w.alloc (.deferred (some []))).alloc (.loop { state := .ready, pending := none, fn, tmps := a.tmps, params := ps, assign, body, defers := w.heap.size })) :=
      ((Below.refl _ w).alloc (Nat.le_refl _) _).alloc (by simp) _
    have hD : ((w.alloc (.deferred (some []))).alloc (.loop { state := .ready, pending := none, fn, tmps := a.tmps, params := ps, assign, body, defers := w.heap.size })).heap[w.heap.size]? = some (.deferred (some [])) :=
      (RowKit.Below.heap_alloc _ _ _ (by simp)).trans (World.alloc_heap_new w _)
    have hL : ((w.alloc (.deferred (some []))).alloc (.loop { state := .ready, pending := none, fn, tmps := a.tmps, params := ps, assign, body, defers := w.heap.size })).heap[w.heap.size + 1]? = some (.loop { state := .ready, pending := none, fn, tmps := a.tmps, params := ps, assign, body, defers := w.heap.size }) := by
      have := World.alloc_heap_new (w.alloc (.deferred (some []))) (.loop { state := .ready, pending := none, fn, tmps := a.tmps, params := ps, assign, body, defers := w.heap.size })
      rwa [World.size_alloc] at this
    obtain ⟨G1, h1, h2, h3, h4⟩ := fin (w.heap.size + 1) [mark w.heap.size] _ hb (fun _ _ _ => trivial) (fun G1 g1 g2 hm => by
      obtain ⟨Ds, m1, m2, m3⟩ := hm
      refine ⟨w.heap.size :: Ds, by simp [m1], List.nodup_cons.2 ⟨fun hmem => ?_, m2⟩, fun D hDm => ?_⟩
      · -- an elder mark lies ahead
        obtain ⟨Ds', n1, n2, n3⟩ := h.defers
        have : Ds = Ds' := by
          have e : Ds.map mark = Ds'.map mark := m1.symm.trans n1
          have inj : ∀ (l l' : List Nat), l.map mark = l'.map mark → l = l' := by
            intro l
            induction l with
            | nil => intro l' e; cases l' with
              | nil => rfl
              | cons _ _ => cases e
            | cons x l ih => intro l' e; cases l' with
              | nil => cases e
              | cons y l' =>
                simp only [List.map_cons, List.cons.injEq] at e
                have : x = y := by have := congrArg Deferred.target e.1; simpa [mark] using this
                rw [this, ih l' e.2]
          exact inj _ _ e
        subst this
        have := (Array.getElem?_eq_some_iff.1 (n3 _ hmem).1).1
        omega
      · rcases List.mem_cons.1 hDm with rfl | hDm
        · exact ⟨hD, g1 _ (Nat.le_refl _)⟩
        · exact m3 D hDm) (by omega)
    exact ⟨_, _, _, _, G1, run_enterLoop_outer fn a.tmps ps assign body, hL, h1, h2, h3, h4⟩
  | some l0 =>
    obtain ⟨r0, hr0⟩ := h.hrd l0 hrd
    have hl0 := (h.objs l0 _ hr0).1
    have hb : Below w.heap.size w (w.alloc (.loop { state := .ready, pending := none, fn, tmps := a.tmps, params := ps, assign, body, defers := r0.defers })) := (Below.refl _ w).alloc (Nat.le_refl _) _
    obtain ⟨G1, h1, h2, h3, h4⟩ := fin w.heap.size [] _ hb (fun _ _ _ => trivial) (fun G1 _ _ hm => hm) (Nat.le_refl _)
    exact ⟨_, _, _, _, G1, run_enterLoop_inner hl0 fn a.tmps ps assign body, World.alloc_heap_new w _, h1, h2, h3, h4⟩

/-- An iterator that is gone over once: its variable goes over to the iterator's own level. -/
theorem Inv.unseal {P : Program} {N : Nat} {F : Fr} {g : Gs} {s : St} {a : Act} {w : World} (hinv : Inv P N F g s a w) {id n : Nat} {es : List Ty} {xs : List (dens es)} {v : Value} (hb : s.box id n = some (false, .inn es xs)) (hv : SRel P s.heap g w (.once id n) v) :
    ∃ g' : Gs, Inv P N { F with t := F.t + 1 } g' { slots := s.slots, heap := (id, .box (n + 1) true (.row .unit [])) :: s.heap } a w ∧ Kp (Own.offs F.m) g.G w g'.G w ∧
      ∃ gf caps, v = .func (.func gf) #[] caps ∧ Callable P gf ∧ ∀ G1 W1, Fwd g'.G w G1 W1 → (∀ k, w.heap.size ≤ k → k < W1.heap.size → (G1 k).upto F.t) → SeqRun P gf #[] caps es xs F.t G1 W1 := by
  have hl := box_spec hb
  obtain ⟨m, fz, c, p1, p2, p3⟩ := hv
  rw [hl] at p1
  cases p1
  have hv := p3 rfl
  obtain ⟨f, caps, cs, et, h1, h2, h4, h5, h6⟩ : SealRel P g.G w F.m false (g.ι id n) es xs (g.ov id).1 := hinv.heap.box id n false _ hl
  rw [if_neg (by simp)] at h5
  have hblt : g.ι id n < w.heap.size := (Array.getElem?_eq_some_iff.1 h4).1
  obtain ⟨g1, g1G, g1o, g1i, g1oo, g1io, hH1, hX1⟩ := hinv.heap.lay (id := id) (n := n + 1) (fz := true) (c := .row .unit []) (fun m fz' c' h' => by rw [hl] at h'; cases h'; omega) (fun m h' => by rw [hl] at h'; cases h') 0 (.slice none 0 0)
    (fun g' _ _ h3 => ⟨none, 0, h3, Nat.le_refl _, .inl rfl⟩)
    (fun g' h3 hr => by
      rcases hr with hr | ⟨ao, m, Cc, hr, hne⟩
      · cases hr
      · rw [h3] at hr; cases hr; exact absurd rfl hne)
  obtain ⟨g2, hg2⟩ : ∃ g2 : Gs, g2 = ⟨fun k => if k = g.ι id n then .mine (F.t + 1) else g.G k, g1.ι, g1.ov, g1.yl⟩ := ⟨_, rfl⟩
  have g2b : g2.G (g.ι id n) = .mine (F.t + 1) := by simp [hg2]
  have g2o : ∀ k, k ≠ g.ι id n → g2.G k = g.G k := fun k hk => by rw [hg2]; exact if_neg hk
  have g2ι : g2.ι = g1.ι := by rw [hg2]
  have g2ov : g2.ov = g1.ov := by rw [hg2]
  have g2yl : g2.yl = g1.yl := by rw [hg2]
  clear hg2
  have ha : Adv g.G w g2.G w := ⟨fun b o v hc hs => ⟨hc, by
    unfold Gh.st at *
    by_cases e : b = g.ι id n
    · rw [e, h5] at hs; exact hs.elim
    · rw [g2o b e]; exact hs⟩⟩
  have hkp : Kp (Own.offs F.m) g.G w g2.G w := ⟨rfl, rfl, rfl, Nat.le_refl _, fun b hb hp => ⟨rfl, g2o b fun e => by rw [e, h5] at hp; exact hp rfl⟩, ha⟩
  have hX2 : Ext ((id, HC.box (n + 1) true (.row .unit [])) :: s.heap) g1 ((id, HC.box (n + 1) true (.row .unit [])) :: s.heap) g2 :=
    ⟨fun _ m fz c h => ⟨m, fz, c, h, Nat.le_refl _, fun _ _ => by rw [g2ι], fun _ => ⟨by rw [g2ov], rfl⟩⟩, fun _ m h => ⟨m, h, Nat.le_refl _, fun _ => by rw [g2ov]⟩, g2yl⟩
  have hfar : ∀ id' n' fz' c', lookO ((id, HC.box (n + 1) true (.row .unit [])) :: s.heap) id' = some (.box n' fz' c') → Real g1 id' c' → g1.ι id' n' ≠ g.ι id n := by
    intro id' n' fz' c' q1 q2
    rw [lookO_cons] at q1
    by_cases e : id = id'
    · rw [if_pos e] at q1
      cases q1
      subst e
      rcases q2 with q2 | ⟨ao, m, Cc, q2, hne⟩
      · cases q2
      · rw [g1o] at q2; cases q2; exact absurd rfl hne
    · rw [if_neg e] at q1
      rw [g1io id' n' (Ne.symm e)]
      refine hinv.heap.apart id' n' fz' c' id n false _ q1 hl (Ne.symm e) ?_ (.inl rfl)
      unfold Real at q2 ⊢
      rwa [g1oo id' (Ne.symm e)] at q2
  have ha1 : Adv g1.G w g2.G w := by rw [g1G]; exact ha
  have hH2 : HeapRel P ((id, HC.box (n + 1) true (.row .unit [])) :: s.heap) g2 w { F with t := F.t + 1 } := by
    refine ⟨fun id' n' fz' c' q => ?_, fun T m q => ?_, fun id1 n1 fz1 c1 id2 n2 fz2 c2 q1 q2 hne r1 r2 => ?_, fun T1 n1 T2 n2 q1 q2 hne b hb => ?_⟩
    · have := (hH1.box id' n' fz' c' q).step (g' := g2) (w' := w) (n' := n') hX2 ha1 (by rw [g2ι]) (by rw [g2ov]) fun hr _ => ⟨rfl, by rw [g2o _ (hfar id' n' fz' c' q hr), g1G]⟩
      exact this
    · obtain ⟨ao, k, cp, q1, q2, q3⟩ := hH1.tok T m q
      refine ⟨ao, k, cp, by rw [g2ov]; exact q1, q2, ?_⟩
      rcases q3 with q3 | ⟨b, o1, cur, et', q4, q5, q6, q7, q8⟩
      · exact .inl q3
      · refine .inr ⟨b, o1, cur, et', q4, ?_, q6, q7, by rw [g2ov]; exact q8⟩
        rw [g1G] at q5
        rw [g2ov, g2o b fun e => by rw [e, h5] at q5; cases q5]; exact q5
    · rw [g2ι]
      refine hH1.apart id1 n1 fz1 c1 id2 n2 fz2 c2 q1 q2 hne ?_ ?_ <;> (unfold Real at *; rwa [g2ov] at *)
    · rw [g2ov] at hb ⊢
      exact hH1.rooms T1 n1 T2 n2 q1 q2 hne b hb
  have hr : Inv P N { F with t := F.t + 1 } g s a w := Inv.raise (F := F) (t := F.t) hinv (Nat.le_succ _)
  refine ⟨g2, hr.ghost (hw := [(id, .box (n + 1) true (.row .unit []))]) hH2 (hX1.trans hX2) ⟨hkp, fun hlv b hb => ?_, fun b o q1 q2 => ⟨q1, g2o b fun e => ?_⟩⟩, hkp, f, caps, hv.trans h1, h2, fun G1 W1 hf hnew => ?_⟩
  · show (g2.G b).upto (F.t + 1)
    by_cases e : b = g.ι id n
    · rw [e, g2b]; exact Nat.le_refl (F.t + 1)
    · rw [g2o b e]; exact hlv b hb
  · rw [e, h4] at q1
    cases q1; cases q2
  · refine h6 F.t G1 W1 (ha.trans hf.adv) ((hf.below.block _ hblt).trans h4) ((hf.own _ hblt).trans g2b) fun k hk hne => ?_
    by_cases hkw : k < w.heap.size
    · rw [hf.own k hkw, g2o k hne]; exact hinv.lv k hkw
    · exact hnew k (by omega) hk
end Go.Vi

/- A loop over a function. -/
namespace Go.Vi
open Go.RowKit (Below)

/-! ### slots -/
def plainS : S → Bool
  | .lst (.tip _ _) _ _ | .ptr _ _ _ _ | .tup _ | .vec _ _ _ | .eptr _ _ _ _ _ | .row _ _ | .once _ _ | .inn _ _ | .fat _ _ _ _ _ _ | .vsub _ _ _ _ => false
  | _ => true
theorem SRel.plain {P : Program} {H H' : Heap} {g g' : Gs} {w w' : World} {u : S} {v : Value} (hu : plainS u = true) (h : SRel P H g w u v) (ha : Adv g.G w g'.G w') (hy : g'.yl = g.yl) : SRel P H' g' w' u v := by
  cases u with
  | dat τ x => exact RepV.adv ha h
  | lst k e x =>
    cases k with
    | clip => exact ⟨RepV.adv ha h.1, h.2⟩
    | nn => exact ⟨RepV.adv ha h.1, h.2⟩
    | tip T n => cases hu
  | ptr id n root π => cases hu
  | cptr τ x => exact CPtr.adv ha h
  | fn ps rs f => exact FnRel.adv ha h
  | seq es xs => exact SeqRel.adv ha h
  | yld es =>
    have h : v = .func (.yield g.yl) #[] #[] := h
    show v = .func (.yield g'.yl) #[] #[]
    rw [hy]; exact h
  | fref f => exact h
  | tup l => cases hu
  | nil => exact h
  | nilf => exact h
  | gone => exact h
  | poison => exact h
  | vec id n e => cases hu
  | eptr id n e i π => cases hu
  | row e xs => cases hu
  | once id n => cases hu
  | inn es xs => cases hu
  | fat _ _ _ _ _ _ => cases hu
  | vsub _ _ _ _ => cases hu
theorem noTip_plain (u : S) : plainS (noTip u) = true ∨ ∃ id n root π, noTip u = .ptr id n root π ∧ u = .ptr id n root π := by
  cases u with
  | lst k e x => cases k <;> exact .inl rfl
  | ptr id n root π => exact .inr ⟨id, n, root, π, rfl, rfl⟩
  | _ => exact .inl rfl
theorem SRel.noTip {P : Program} {H : Heap} {g : Gs} {w : World} {u : S} {v : Value} (h : SRel P H g w u v) : SRel P H g w (noTip u) v := by
  cases u with
  | lst k e x =>
    cases k with
    | tip T n => exact h.1
    | clip => exact h.1
    | nn => exact h
  | tup l => exact SRel.of0 (s := .poison) trivial
  | vec id n e => exact SRel.of0 (s := .poison) trivial
  | eptr id n e i π => exact SRel.of0 (s := .poison) trivial
  | row e xs => exact SRel.of0 (s := .poison) trivial
  | once id n => exact SRel.of0 (s := .poison) trivial
  | inn es xs => exact SRel.of0 (s := .poison) trivial
  | fat _ _ _ _ _ _ => exact SRel.of0 (s := .poison) trivial
  | vsub _ _ _ _ => exact SRel.of0 (s := .poison) trivial
  | _ => exact h

theorem sameSlots_spec {s' : St} : ∀ {base : List (Nat × S)}, sameSlots s' base = true → ∀ t v, (t, v) ∈ base → samePtr v (look .poison s'.slots t) = true
  | [], _, _, _, h => by cases h
  | (t0, v0) :: l, hs, t, v, h => by
    simp only [sameSlots, Bool.and_eq_true] at hs
    rcases List.mem_cons.1 h with h | h
    · cases h; exact hs.1
    · exact sameSlots_spec hs.2 t v h
theorem samePtr_spec {id n : Nat} {root : Ty} {π : List Step} {u : S} (h : samePtr (.ptr id n root π) u = true) : π = [] ∧ ∃ root', u = .ptr id n root' [] := by
  cases u <;> simp only [samePtr, Bool.false_eq_true] at h
  case ptr id' n' root' π' =>
    simp only [Bool.and_eq_true] at h
    obtain ⟨⟨h1, h2⟩, h3⟩ := h
    have h1 := Nat.eq_of_beq_eq_true h1
    have h2 := Nat.eq_of_beq_eq_true h2
    subst h1; subst h2
    split at h3
    · exact ⟨rfl, root', rfl⟩
    · cases h3
theorem ptrSlots_mem : ∀ {base : List (Nat × S)} {t id n : Nat} {root : Ty} {π : List Step}, (t, S.ptr id n root π) ∈ base → t ∈ ptrSlots base
  | (t0, v0) :: l, t, id, n, root, π, h => by
    rcases List.mem_cons.1 h with h | h
    · cases h; simp [ptrSlots]
    · have := ptrSlots_mem h
      cases v0 <;> simp [ptrSlots, this]
  | [], _, _, _, _, _, h => by cases h
theorem ptrSlots_key : ∀ {base : List (Nat × S)} {t : Nat}, t ∈ ptrSlots base → t ∈ base.map (·.1)
  | (t0, v0) :: l, t, h => by
    have rec' : t ∈ ptrSlots l → t ∈ ((t0, v0) :: l).map (·.1) := fun h => List.mem_cons_of_mem _ (ptrSlots_key h)
    cases v0 <;> simp only [ptrSlots] at h <;> try exact rec' h
    case ptr =>
      rcases List.mem_cons.1 h with h | h
      · simp [h]
      · exact rec' h
  | [], _, h => by cases h

theorem getD_set' (a : Array Value) (d : Nat) (v : Value) (t : Nat) (hd : d < a.size) : (a.setIfInBounds d v).getD t undef = if d = t then v else a.getD t undef := by
  by_cases h : d = t
  · subst h; rw [if_pos rfl]; simp [hd]
  · rw [if_neg h]; simp [Array.getElem?_setIfInBounds_ne h]
theorem nodup_cons {k : Nat} {l : List Nat} (h : nodup (k :: l) = true) : k ∉ l ∧ nodup l = true := by
  simp only [nodup, Bool.and_eq_true, Bool.not_eq_true'] at h
  refine ⟨fun hm => ?_, h.2⟩
  rw [mem_iff.2 hm] at h
  cases h.1

/-- What a round's parameters are laid with. -/
theorem parSlots_rel {G : Gh} {w : World} : ∀ (ps : List Nat) (es : List Ty) (x : dens es) (l : List (Nat × S)) (vs : List Value) (tm : Array Value), parSlots ps es x = some l → ArgsD G w es x vs → nodup ps = true → (∀ p ∈ ps, p < tm.size) →
    ps.length = vs.length ∧ ∃ tm', (ps.zip vs).foldl (fun t p => t.setIfInBounds p.1 p.2) tm = tm' ∧ tm'.size = tm.size ∧ (∀ t, t ∉ ps → tm'.getD t undef = tm.getD t undef ∧ lookO l t = none) ∧
      ∀ t, t ∈ ps → ∃ u, lookO l t = some u ∧ ∀ (P : Program) (H : Heap) (g : Gs), g.G = G → SRel P H g w u (tm'.getD t undef)
  | [], [], _, l, vs, tm, h, hv, _, _ => by
    cases h
    have hv : vs = [] := hv
    subst hv
    exact ⟨rfl, tm, rfl, rfl, fun t _ => ⟨rfl, rfl⟩, fun t ht => by cases ht⟩
  | [p], [e], x, l, vs, tm, h, hv, _, hlt => by
    cases h
    obtain ⟨v, rfl, hv⟩ := hv
    refine ⟨rfl, tm.setIfInBounds p v, rfl, by simp, fun t ht => ?_, fun t ht => ?_⟩
    · have hne : p ≠ t := fun e => ht (by simp [e])
      rw [getD_set' tm p v t (hlt p (by simp)), if_neg hne, lookO_cons, if_neg hne]
      exact ⟨rfl, rfl⟩
    · have : t = p := by simpa using ht
      subst this
      refine ⟨.dat e x, by rw [lookO_cons, if_pos rfl], fun P H g hg => ?_⟩
      rw [getD_set' tm t v t (hlt t (by simp)), if_pos rfl]
      subst hg
      exact hv
  | p :: q :: ps, e :: e' :: es, x, l, vs, tm, h, hv, hn, hlt => by
    simp only [parSlots] at h
    rw [Option.map_eq_some_iff] at h
    obtain ⟨l', hl', rfl⟩ := h
    obtain ⟨v, vs', rfl, hv1, hv2⟩ := hv
    obtain ⟨hn1, hn2⟩ := nodup_cons hn
    obtain ⟨h0, tm', h1, h2, h3, h4⟩ := parSlots_rel (q :: ps) (e' :: es) x.2 l' vs' (tm.setIfInBounds p v) hl' hv2 hn2 (fun p' hp' => by rw [Array.size_setIfInBounds]; exact hlt p' (List.mem_cons_of_mem _ hp'))
    refine ⟨by simp only [List.length_cons] at h0 ⊢; omega, tm', ?_, by simpa using h2, fun t ht => ?_, fun t ht => ?_⟩
    · exact h1
    · have hne : p ≠ t := fun e => ht (by simp [e])
      obtain ⟨k1, k2⟩ := h3 t (fun hm => ht (List.mem_cons_of_mem _ hm))
      rw [k1, getD_set' tm p v t (hlt p (by simp)), if_neg hne, lookO_cons, if_neg hne]
      exact ⟨rfl, k2⟩
    · rcases List.mem_cons.1 ht with rfl | ht
      · refine ⟨.dat e x.1, by rw [lookO_cons, if_pos rfl], fun P H g hg => ?_⟩
        obtain ⟨k1, _⟩ := h3 t hn1
        rw [k1, getD_set' tm t v t (hlt t (by simp)), if_pos rfl]
        subst hg
        exact hv1
      · obtain ⟨u, k1, k2⟩ := h4 t ht
        have hne : p ≠ t := fun e => hn1 (e ▸ ht)
        exact ⟨u, by rw [lookO_cons, if_neg hne]; exact k1, k2⟩
  | [], _ :: _, _, _, _, _, h, _, _, _ => by simp [parSlots] at h
  | [_], [], _, _, _, _, h, _, _, _ => by simp [parSlots] at h
  | [_], _ :: _ :: _, _, _, _, _, h, _, _, _ => by simp [parSlots] at h
  | _ :: _ :: _, [], _, _, _, _, h, _, _, _ => by simp [parSlots] at h
  | _ :: _ :: _, [_], _, _, _, _, h, _, _, _ => by simp [parSlots] at h

def toExit : Ex → Exit
  | .normal => .normal
  | .exit id => .exit id
  | .ret => .ret
def exCode : Ex → Code
  | .normal => .skip
  | .exit id => .exit id
  | .ret => .ret

theorem castDs_some {es es' : List Ty} {x : dens es} {y : dens es'} (h : castDs es es' x = some y) : (⟨es, x⟩ : (es : List Ty) × dens es) = ⟨es', y⟩ := by
  unfold castDs at h
  split at h
  · rename_i hb
    have hst := tysEq hb
    subst hst
    cases h; rfl
  · cases h

/-- The state between two rounds. -/
def JIn {R : Type} (P : Program) (N : Nat) (F : Fr) (J : R → Gh → World → Prop) (a1 : Act) (l : Nat) (rec : LoopState → Option Code → Loop) (base : List (Nat × S)) {α : Type} (it : List α → Heap → Option R) (K : Ex → St → Option R) (xs : List α) (G : Gh) (w : World) : Prop :=
  (∃ t g h r, g.G = G ∧ F.t ≤ t ∧ Inv P N { F with t := t } g { slots := base, heap := h } a1 w ∧ J r G w ∧ it xs h = some r ∧ w.heap[l]? = some (.loop (rec .ready none)) ∧ G l = .mine F.m) ∨
  (xs = [] ∧ ∃ t g h r e, g.G = G ∧ F.t ≤ t ∧ Inv P N { F with t := t } g { slots := base, heap := h } a1 w ∧ J r G w ∧ K e { slots := base, heap := h } = some r ∧ e ≠ .normal ∧ w.heap[l]? = some (.loop (rec .done (some (exCode e)))) ∧ G l = .mine F.m)

theorem JIn.abide {R : Type} {P : Program} {N : Nat} {F : Fr} {J : R → Gh → World → Prop} {a1 : Act} {l : Nat} {rec : LoopState → Option Code → Loop} {base : List (Nat × S)} {α : Type} {it : List α → Heap → Option R} {K : Ex → St → Option R}
    {τ : Nat} (hJ : Abide τ J) (hτ : τ < F.m) (hm : F.m ≤ F.t) (h0 : Lv F.t F.G F.w) : Abide F.t (JIn P N F J a1 l rec base it K) := by
  intro xs G w G' w' h k
  have key : ∀ (t : Nat) (g : Gs) (h : Heap), g.G = G → F.t ≤ t → Inv P N { F with t := t } g { slots := base, heap := h } a1 w → ∃ t' g', g'.G = G' ∧ F.t ≤ t' ∧ Inv P N { F with t := t' } g' { slots := base, heap := h } a1 w' := by
    intro t g h hg ht hinv
    obtain ⟨t', h1, h2⟩ := Lv.exists G' w' t
    subst hg
    exact ⟨t', ⟨G', g.ι, g.ov, g.yl⟩, rfl, Nat.le_trans ht h1, Inv.kp (hinv.raise h1) k trivial hm (fun _ => hm) (fun b hb _ => h0 b hb) h2⟩
  have hl : ∀ o : Obj, w.heap[l]? = some o → G l = .mine F.m → w'.heap[l]? = some o ∧ G' l = .mine F.m := by
    intro o h1 h2
    obtain ⟨q1, q2⟩ := k.same l (Array.getElem?_eq_some_iff.1 h1).1 (by rw [h2]; exact hm)
    exact ⟨q1.trans h1, q2.trans h2⟩
  have hJk : ∀ r, J r G w → J r G' w' := fun r hj => hJ r G w G' w' hj (k.mono fun o ho => Own.upto_mono (by omega) ho)
  rcases h with ⟨t, g, h, r, h1, h2, h3, h4, h5, h6, h7⟩ | ⟨hx, t, g, h, r, e, h1, h2, h3, h4, h5, h6, h7, h8⟩
  · obtain ⟨t', g', k1, k2, k3⟩ := key t g h h1 h2 h3
    obtain ⟨q1, q2⟩ := hl _ h6 h7
    exact .inl ⟨t', g', h, r, k1, k2, k3, hJk r h4, h5, q1, q2⟩
  · obtain ⟨t', g', k1, k2, k3⟩ := key t g h h1 h2 h3
    obtain ⟨q1, q2⟩ := hl _ h7 h8
    exact .inr ⟨hx, t', g', h, r, e, k1, k2, k3, hJk r h4, h5, h6, q1, q2⟩
end Go.Vi

/- A loop over a function: what the interpreter says it does. -/
namespace Go.Vi
open Go.RowKit (Below)

theorem Own.above_mono {t t' : Nat} (h : t ≤ t') : ∀ {o : Own}, o.above t' → o.above t
  | .stays, _ => trivial
  | .mine _, k => Nat.lt_of_le_of_lt h k
  | .room _ _, k => Nat.lt_of_le_of_lt h k
theorem Own.above_offs {m t : Nat} (h : m ≤ t) : ∀ {o : Own}, o.above t → o.offs m
  | .stays, _ => trivial
  | .mine j, k => by have k : t < j := k; show j ≠ m; omega
  | .room j _, k => by have k : t < j := k; show j ≠ m; omega

/-- Other slots, each of which holds. -/
theorem Inv.onSlots {P : Program} {N : Nat} {F : Fr} {g : Gs} {s : St} {a : Act} {w : World} (h : Inv P N F g s a w) {base : List (Nat × S)} (hb : ∀ t u, lookO base t = some u → SRel P s.heap g w u (a.tmps.getD t undef)) :
    Inv P N F g { slots := base, heap := s.heap } a w := by
  refine ⟨fun t => ?_, h.size, h.defers, h.heap, h.stp, h.lv, h.mt, h.hB, h.objs, h.pin, h.yl, h.hp, h.hrd, h.lv0⟩
  show SRel P s.heap g w (look .poison base t) _
  rw [look_lookO]
  cases hl : lookO base t with
  | none => exact SRel.of0 (s := .poison) trivial
  | some u => exact hb t u hl

theorem sameBase {P : Program} {N : Nat} {F : Fr} {g : Gs} {s : St} {a : Act} {w : World} (h : Inv P N F g s a w) {base : List (Nat × S)} (hs : sameSlots s base = true) {t id n : Nat} {root : Ty} {π : List Step} (ht : (t, S.ptr id n root π) ∈ base) :
    SRel P s.heap g w (.ptr id n root π) (a.tmps.getD t undef) := by
  obtain ⟨rfl, root', hu⟩ := samePtr_spec (sameSlots_spec hs t _ ht)
  have := h.slots t
  rw [hu] at this
  obtain ⟨m, fz, c, h1, h2, h3, h4⟩ := this
  exact ⟨m, fz, c, h1, h2, trivial, h4⟩

theorem rangeFunc_sound {R : Type} {P : Program} {N : Nat} {F : Fr} {T0 : Nat} (hT0 : F.t ≤ T0) (hm : F.m ≤ F.t) (hlv0 : Lv F.t F.G F.w) {em : EmR R} {τ : Nat} {J : R → Gh → World → Prop} (hE : EmOk P F τ em J) {es : List Ty} {f : Operand} {ps : Array Tmp} {assign body : Code} {ks : List Nat × List Nat} {base : List (Nat × S)}
    {bodyK : dens es → St → (Ex → St → Option R) → Option R} {K : Ex → St → Option R} {Q : Exit → Act → World → Prop}
    (hbase : ∀ t u, (t, u) ∈ base → plainS u = true ∨ ∃ id n root π, u = .ptr id n root π) (hlt : ∀ p ∈ ps.toList, p < N) (hnd : nodup ps.toList = true) (hkeys : ∀ p ∈ ps.toList, p ∉ base.map (·.1))
    (hround : ∀ (x : dens es) (F1 : Fr) (l : Nat) (rc : Loop) (O : List (Nat × Obj)) (g : Gs) (h : Heap) (lps : List (Nat × S)) (tm : Array Value) (W : World) (K' : Ex → St → Option R) (r' : R) (Q' : Exit → Act → World → Prop),
      F1.rd = some l → F1.objs = (l, .loop rc) :: O → (∀ p ∈ O, p.1 ≠ l) → F1.pins = ptrSlots base → EmOk P F1 τ em J → rc.state = .ready →
      Inv P N F1 g { slots := lps ++ base, heap := h } { tmps := tm, defers := [] } W → J r' g.G W → parSlots ps.toList es x = some lps → bodyK x { slots := base, heap := h } K' = some r' →
      (∀ e s' g' a' w' r'', Inv P N { F1 with objs := (l, .loop { rc with state := .busy }) :: O } g' s' a' w' → J r'' g'.G w' → K' e s' = some r'' → Q' (toExit e) a' w') →
      assign.wpIn (wr (some l)) 0 P (Exit.then (fun a₁ w₁ => ∃ w₂, (Instr.beginRound l).run P w₁ = .ok () w₂ ∧ body.wpIn (wr (some l)) 0 P Q' a₁ w₂) (fun _ _ _ => False)) { tmps := tm, defers := [] } W)
    (hps : ∀ x s K r, bodyK x s K = some r → ∃ lps, parSlots ps.toList es x = some lps)
    {xs : List (dens es)} {h0 : Heap} {g : Gs} {a : Act} {w : World} {r : R} (hinv : Inv P N { F with t := T0 } g { slots := base, heap := h0 } a w) (hJ : J r g.G w)
    (hf : ∃ gf first caps, a.eval f = .func (.func gf) first caps ∧ Callable P gf ∧ ∀ G1 W1, Fwd g.G w G1 W1 → (∀ k, w.heap.size ≤ k → k < W1.heap.size → (G1 k).upto F.t) → SeqRun P gf first caps es xs F.t G1 W1) (hit : iterS bodyK base ks K xs h0 = some r)
    (hK : ∀ e s' g' a' w' r', Inv P N F g' s' a' w' → J r' g'.G w' → K e s' = some r' → Q (toExit e) a' w') : (Code.rangeFunc f ps assign body).wpIn (wr F.rd) 0 P Q a w := by
  refine wpIn_rangeFunc fun fn _ => ?_
  obtain ⟨l, mk, d0, W1, G1, henter, hrec1, hGl1, hlt1, hfwd, hnew1, hinv1⟩ := hinv.enter fn ps assign body
  obtain ⟨gf, first, caps, hv, hcall, hrun⟩ := hf
  obtain ⟨rec, hrec⟩ : ∃ rec : LoopState → Option Code → Loop, rec = fun st pe => { state := st, pending := pe, fn, tmps := a.tmps, params := ps, assign, body, defers := d0 } := ⟨_, rfl⟩
  have hseq := hrun G1 W1 hfwd fun k hk _ => by rw [show G1 k = .mine F.m from hnew1 k hk]; exact hm
  have hnotl : ∀ l' o, (l', o) ∈ F.objs → l' ≠ l := by
    intro l' o h e
    have := (Array.getElem?_eq_some_iff.1 (hinv.objs l' o h).1).1
    omega
  have hupl : ∀ {G : Gh}, G l = .mine F.m → ¬ Own.upto τ (G l) := by
    intro G h hu
    rw [h] at hu
    have hu : F.m ≤ τ := hu
    have := hE.lt
    omega
  refine ⟨l, mk, W1, { target := .fn (.func gf) caps, args := first ++ #[.func (.yield l) #[] #[]] }, W1, gf, first ++ #[.func (.yield l) #[] #[]] ++ caps, W1, henter, ?_, fun _ _ => trivial, ?_, fun h => (by cases h), callsIn_wr ?_⟩
  · simp only [rangeCall, resolve, Deferred.ofValue, hv, Sem.run_bind, Sem.run_pure, Result.andThen_ok]
    congr 2
    simp [Act.eval]
  · have := run_callFunc hcall (first ++ #[.func (.yield l) #[] #[]] ++ caps) W1
    simpa only [invoke] using this
  · refine (hseq l (JIn P N F J { a with defers := mk ++ a.defers } l rec base (fun (xs : List (dens es)) h => iterS bodyK base ks K xs h) K) (JIn.abide hE.ab hE.lt hm hlv0) ?_ ?_).mono ?_
    · -- a round
      intro es' x r rout hcons G W vs t hj hlv hle hargs
      have hcons : (castDs es' es x).map (· :: r) = some rout := hcons
      obtain ⟨x', hx', rfl⟩ := Option.map_eq_some_iff.1 hcons
      cases castDs_some hx'
      rcases hj with ⟨t0, gj, h, rj, rfl, ht0, hi, hjr, hiter, hrl, hGl⟩ | ⟨hx, _⟩
      case inr => cases hx
      simp only [iterS] at hiter
      obtain ⟨lps, hlps⟩ := hps _ _ _ _ hiter
      obtain ⟨hlen, tm', htm, hsz, hout, hin⟩ := parSlots_rel ps.toList es x' lps vs a.tmps hlps hargs hnd (fun p hp => by rw [hinv.size]; exact hlt p hp)
      obtain ⟨OM, om1, om2, om3⟩ := hi.defers.lt
      have hOne : ∀ p ∈ OM ++ F.objs, p.1 ≠ l := by
        intro p hp
        obtain ⟨l', o⟩ := p
        rcases List.mem_append.1 hp with hp | hp
        · intro e
          have h1 := (om2 l' o hp).1
          have h2 := om1 _ hp
          simp only at h2 e
          rw [h2, e, hrl] at h1
          cases h1
        · exact hnotl l' o hp
      let F1 : Fr := { m := F.m, t := t, B := F.B, G := gj.G, w := W, p := fun o => F.p o ∨ Own.above F.t o, rd := some l, objs := (l, .loop (rec .ready none)) :: (OM ++ F.objs), pins := ptrSlots base, pv := fun t => a.tmps.getD t undef, yl := F.yl }
      have hE1 : EmOk P F1 τ em J := by
        refine ⟨hE.lt, hE.ab, ?_⟩
        rcases hE.y with h | ⟨h1, h2⟩
        · exact .inl h
        · exact .inr ⟨fun o ho => ho.elim (h1 o) (Own.above_mono (Nat.le_trans (Nat.le_of_lt hE.lt) hm)), h2⟩
      have hi1 : Inv P N F1 gj { slots := lps ++ base, heap := h } { tmps := tm', defers := [] } W := by
        refine ⟨fun t' => ?_, by rw [hsz]; exact hi.size, Marks.nil _ _ _, ⟨hi.heap.box, hi.heap.tok, hi.heap.apart, hi.heap.rooms⟩, Kp.refl _ _ _, hlv, Nat.le_trans hm hle, hi.hB, fun l' o ho => ?_, fun t' ht' => ?_, hi.yl, fun o ho => ho.elim (hi.hp o) (Own.above_offs hm), fun l' hl' => ?_, hlv⟩
        · show SRel P h gj W (look .poison (lps ++ base) t') (tm'.getD t' undef)
          rw [look_lookO, lookO_append]
          by_cases hp : t' ∈ ps.toList
          · obtain ⟨u, hu, hr⟩ := hin t' hp
            rw [hu]
            exact hr P h gj rfl
          · obtain ⟨e1, e2⟩ := hout t' hp
            rw [e1, e2, Option.none_or]
            have := hi.slots t'
            rw [show (St.mk base h).slots = base from rfl, look_lookO] at this
            exact this
        · rcases List.mem_cons.1 ho with ho | ho
          · cases ho; exact ⟨hrl, rfl, hGl⟩
          · rcases List.mem_append.1 ho with ho | ho
            · exact om2 l' o ho
            · exact hi.objs l' o ho
        · exact (hout t' (fun hp => hkeys t' hp (ptrSlots_key ht'))).1
        · cases hl'
          exact ⟨_, List.mem_cons_self⟩
      have hyield := run_yield (P := P) (args := vs.toArray) hrl (by rw [hrec]; simpa using hlen.symm)
      have hfold : (ps.zip vs.toArray).foldl (fun tmps (t, a) => tmps.setIfInBounds t a) a.tmps = tm' := by
        rw [← Array.foldl_toList, Array.toList_zip]
        exact htm
      have hyield' : (Instr.yield l vs.toArray).run P W = .ok (.round l fn tm' assign body) W := by
        rw [hyield, hrec]
        simp only [hfold]
      refine ⟨fn, tm', assign, body, hyield', roundIn_of_wpIn trivial (hround x' F1 l (rec .ready none) (OM ++ F.objs) gj h lps tm' W _ rj _ rfl rfl hOne rfl hE1 (by rw [hrec]) hi1 hjr hlps hiter ?_)⟩
      -- behind the round
      intro e s' g' a' w' r'' hi2 hj2 hk
      have hl2 := hi2.objs l _ List.mem_cons_self
      cases hs : sameSlots s' base with
      | false => rw [hs] at hk; cases hk
      | true =>
        rw [hs, cond_true] at hk
        have stepA : ∀ (st : LoopState) (jump : Option Code), ∀ W4, W4 = w'.putObj l (.loop (rec st jump)) →
            W4.heap[l]? = some (.loop (rec st jump)) ∧ Inv P N { F with t := t } g' { slots := base, heap := s'.heap } { a with defers := mk ++ a.defers } W4 ∧ J r'' g'.G W4 ∧ Kp (Own.above F.t) gj.G W g'.G W4 ∧ Lv t g'.G W4 := by
          intro st jump W4 hW4
          have hsame : W4.heap[l]? = some (.loop (rec st jump)) := by
            rw [hW4]; exact World.putObj_heap_same (Array.getElem?_eq_some_iff.1 hl2.1).1
          have hi3 := Inv.putObj (O := []) (O' := (l, .loop (rec st jump)) :: (OM ++ F.objs)) (ds := []) (o' := .loop (rec st jump)) hi2 hl2.1 rfl hl2.2.2 (Marks.nil _ _ _) (fun l' o ho => by
            rcases List.mem_cons.1 ho with ho | ho
            · cases ho
              exact ⟨by rw [← hW4]; exact hsame, rfl, hl2.2.2⟩
            · have hne := hOne _ ho
              obtain ⟨q1, q2, q3⟩ := hi2.objs l' o (List.mem_cons_of_mem _ ho)
              exact ⟨by rw [World.putObj_heap_other hne]; exact q1, q2, q3⟩) (fun l' hl' => by cases hl'; exact ⟨_, List.mem_cons_self⟩)
          rw [← hW4] at hi3
          have hadv : Adv gj.G W g'.G W4 := hi3.stp.adv
          refine ⟨hsame, ?_, ?_, hi3.stp.mono fun o ho => .inr ho, hi3.lv⟩
          · refine ⟨fun t' => ?_, hi.size, om3 g'.G W4 fun l' o ho => hi3.objs l' o (List.mem_cons_of_mem _ (List.mem_append_left _ ho)), ⟨hi3.heap.box, hi3.heap.tok, hi3.heap.apart, hi3.heap.rooms⟩, hi.stp.trans (hi3.stp.mono fun o ho => .inl ho), hi3.lv, Nat.le_trans hm hle,
              Nat.le_trans hi.hB hi3.stp.size, fun l' o ho => hi3.objs l' o (List.mem_cons_of_mem _ (List.mem_append_right _ ho)), hi.pin, hi3.yl, hi.hp, hi.hrd, hlv0.mono hle⟩
            show SRel P s'.heap g' W4 (look .poison base t') (a.tmps.getD t' undef)
            rw [look_lookO]
            cases hl : lookO base t' with
            | none => exact SRel.of0 (s := .poison) trivial
            | some u =>
              have hmem := lookO_mem hl
              have hold := hi.slots t'
              rw [show (St.mk base h).slots = base from rfl, look_lookO, hl] at hold
              rcases hbase t' u hmem with hp | ⟨id, n, root, π, rfl⟩
              · exact SRel.plain hp hold hadv (hi3.yl.trans hi.yl.symm)
              · have := sameBase hi3 hs hmem
                have hpin : a'.tmps.getD t' undef = a.tmps.getD t' undef := hi3.pin t' (ptrSlots_mem hmem)
                have this : SRel P s'.heap g' W4 (.ptr id n root π) (a'.tmps.getD t' undef) := this
                rw [hpin] at this
                exact this
          · rw [hW4]
            exact hE.ab _ _ _ _ _ hj2 (Kp.putObj hl2.1 rfl (hupl hl2.2.2))
        have hR : ∀ (b : Bool) (jump : Option Code) (st : LoopState), jump.isNone = b → st = (if jump.isNone = true then .ready else .done) →
            (Instr.endRound l jump).run P w' = .ok (.bool b) (w'.putObj l (.loop (rec st jump))) := by
          intro b jump st hb hst
          have := run_endRound (P := P) jump hl2.1
          rw [this, hst, hb]
          subst hrec
          rfl
        cases e with
        | normal =>
          simp only at hk
          obtain ⟨a1, a2, a3, a4, a5⟩ := stepA .ready none _ rfl
          refine ⟨_, _, hR true none .ready rfl rfl, true, g'.G, rfl, a4, a5, fun _ => .inl ?_, fun h => by cases h⟩
          split at hk
          · rename_i s'' hkeep
            cases hs2 : sameSlots s'' base with
            | false => rw [hs2] at hk; cases hk
            | true =>
              rw [hs2, cond_true] at hk
              obtain ⟨g5, hg5, hi5⟩ := a2.keep hkeep
              refine ⟨t, g5, s''.heap, r'', hg5, hle, hi5.onSlots fun t' u hl => ?_, a3, hk, a1, hl2.2.2⟩
              have hmem := lookO_mem hl
              rcases hbase t' u hmem with hp | ⟨id, n, root, π, rfl⟩
              · have hold := a2.slots t'
                rw [show (St.mk base s'.heap).slots = base from rfl, look_lookO, hl] at hold
                exact SRel.plain hp hold (by rw [hg5]; exact Adv.refl _ _) (hi5.yl.trans a2.yl.symm)
              · exact sameBase hi5 hs2 hmem
          · cases hk
        | ret =>
          simp only at hk
          obtain ⟨a1, a2, a3, a4, a5⟩ := stepA .done (some .ret) _ rfl
          refine ⟨_, _, hR false (some .ret) .done rfl rfl, false, g'.G, rfl, a4, a5, fun h => (by cases h), fun _ rn hrn => ?_⟩
          have hrn : rn = [] := List.isEmpty_iff.1 hrn
          exact .inr ⟨hrn, t, g', s'.heap, r'', .ret, rfl, hle, a2, a3, hk, by simp, a1, hl2.2.2⟩
        | exit id =>
          simp only at hk
          obtain ⟨a1, a2, a3, a4, a5⟩ := stepA .done (some (.exit id)) _ rfl
          refine ⟨_, _, hR false (some (.exit id)) .done rfl rfl, false, g'.G, rfl, a4, a5, fun h => (by cases h), fun _ rn hrn => ?_⟩
          have hrn : rn = [] := List.isEmpty_iff.1 hrn
          exact .inr ⟨hrn, t, g', s'.heap, r'', .exit id, rfl, hle, a2, a3, hk, by simp, a1, hl2.2.2⟩
    · -- the begin
      refine .inl ⟨T0, ⟨G1, g.ι, g.ov, g.yl⟩, h0, r, rfl, hT0, hinv1, ?_, hit, by rw [hrec1, hrec], hGl1⟩
      exact hE.ab _ _ _ _ _ hJ (hfwd.kp _)
    · -- behind the loop
      rintro e w' ⟨v, G', rfl, hjn⟩
      show rangePost (wr F.rd) 0 P l Q _ (.returned v) w'
      have fin : ∀ (t : Nat) (g2 : Gs) (h2 : Heap) (r2 : R) (e : Ex) (st : LoopState) (jump : Option Code), F.t ≤ t → Inv P N { F with t := t } g2 { slots := base, heap := h2 } { a with defers := mk ++ a.defers } w' → J r2 g2.G w' → K e { slots := base, heap := h2 } = some r2 →
          w'.heap[l]? = some (.loop (rec st jump)) → g2.G l = .mine F.m → Q (toExit e) { a with defers := mk ++ a.defers } (w'.putObj l (.loop { rec st jump with state := .exhausted })) := by
        intro t g2 h2 r2 e st jump ht hi2 hj2 hk hrl hGl
        have hi3 := hi2.lower hm hlv0
        have hlow : (g2.G.low F.t) l = .mine F.m := by
          show Own.low F.t (g2.G l) = _
          rw [hGl]; exact Own.low_of hm
        obtain ⟨OM, om1, om2, om3⟩ := hi3.defers.lt
        have hi4 := Inv.putObj (O := []) (O' := F.objs) (ds := mk ++ a.defers) (o' := .loop { rec st jump with state := .exhausted }) hi3 hrl rfl hlow (om3 _ _ fun l' o ho => by
          obtain ⟨q1, q2, q3⟩ := om2 l' o ho
          have hne : l' ≠ l := by
            intro e0
            have h2 := om1 _ ho
            simp only at h2
            rw [h2, e0, hrl] at q1
            cases q1
          exact ⟨by rw [World.putObj_heap_other hne]; exact q1, q2, q3⟩) (fun l' o ho => by
          obtain ⟨q1, q2, q3⟩ := hi3.objs l' o ho
          exact ⟨by rw [World.putObj_heap_other (hnotl l' o ho)]; exact q1, q2, q3⟩) hinv.hrd
        refine hK e _ _ _ _ r2 hi4 ?_ hk
        have hj3 := hE.ab _ _ _ _ _ hj2 ((Gh.low_kp F.t g2.G w').mono fun o ho => Own.upto_mono (Nat.le_trans (Nat.le_of_lt hE.lt) hm) ho)
        exact hE.ab _ _ _ _ _ hj3 (Kp.putObj hrl rfl (hupl hlow))
      rcases hjn with ⟨t, g2, h2, r2, rfl, ht, hi2, hj2, hit2, hrl, hGl⟩ | ⟨_, t, g2, h2, r2, e, rfl, ht, hi2, hj2, hk, hne, hrl, hGl⟩
      · simp only [iterS] at hit2
        have hend : (Instr.endLoop l).run P w' = .ok none (w'.putObj l (.loop { rec .ready none with state := .exhausted })) :=
          (run_endLoop (P := P) hrl (by rw [hrec]; simp)).trans (by subst hrec; rfl)
        exact ⟨none, _, hend, fin t g2 h2 r2 .normal .ready none ht hi2 hj2 hit2 hrl hGl⟩
      · have hend : (Instr.endLoop l).run P w' = .ok (some (exCode e)) (w'.putObj l (.loop { rec .done (some (exCode e)) with state := .exhausted })) :=
          (run_endLoop (P := P) hrl (by rw [hrec]; simp)).trans (by subst hrec; rfl)
        refine ⟨some (exCode e), _, hend, ?_⟩
        have hq := fin t g2 h2 r2 e .done _ ht hi2 hj2 hk hrl hGl
        cases e with
        | normal => exact absurd rfl hne
        | exit id => exact wpIn_exit hq
        | ret => exact wpIn_ret hq
end Go.Vi

/- Code: what the interpreter computes is what the code does. -/
namespace Go.Vi
open Go.RowKit (Below)

theorem keep_keys {s s' : St} {ks : List Nat × List Nat} (h : s.keep ks = some s') : ∀ p ∈ s'.slots, p.1 ∈ ks.1 := by
  intro p hp
  unfold St.keep at h
  split at h
  · simp only [cond_eq_ite] at h
    split at h
    · cases h
      obtain ⟨k, hk, rfl⟩ := List.mem_map.1 hp
      exact hk
    · cases h
  · cases h

theorem exec_sound {P : Program} {R : Type} {em : EmR R} {τ : Nat} {J : R → Gh → World → Prop} {n : Nat} : ∀ (code : Code) {C : Ctx} (_ : CtxOk P C) {F : Fr} (_ : F.pins = C.pins) (_ : EmOk P F τ em J) {s : St} {K : Ex → St → Option R} {Q : Exit → Act → World → Prop} {g : Gs} {a : Act} {w : World} {r : R},
    Inv P C.ntmps F g s a w → J r g.G w → exec em C n code s K = some r →
    (∀ e s' g' a' w' r', Inv P C.ntmps F g' s' a' w' → J r' g'.G w' → K e s' = some r' → Q (toExit e) a' w') → code.wpIn (wr F.rd) 0 P Q a w := by
  intro code
  induction code with
  | skip => intro C hC F hp hE s K Q g a w r hinv hJ h hK; exact wpIn_skip (hK .normal s g a w r hinv hJ h)
  | label l => intro C hC F hp hE s K Q g a w r hinv hJ h hK; exact wpIn_label (hK .normal s g a w r hinv hJ h)
  | region id ops draw =>
    intro C hC F hp hE s K Q g a w r hinv hJ h hK
    exact region_wp hC hp hE h hinv hJ fun sf g' a' w' r' hk hi hj => hK .normal sf g' a' w' r' hi hj hk
  | seq x y ihx ihy =>
    intro C hC F hp hE s K Q g a w r hinv hJ h hK
    refine wpIn_seq (ihx hC hp hE hinv hJ h fun e s' g' a' w' r' hi hj hk => ?_)
    cases e with
    | normal => exact ihy hC hp hE hi hj hk hK
    | exit id => exact hK (.exit id) s' g' a' w' r' hi hj hk
    | ret => exact hK .ret s' g' a' w' r' hi hj hk
  | cond c x y ihx ihy =>
    intro C hC F hp hE s K Q g a w r hinv hJ h hK
    simp only [exec] at h
    split at h
    · rename_i t
      split at h
      · rename_i b hb
        have hs := hinv.slots t
        rw [hb] at hs
        have hv : a.eval (.tmp t) = .bool b := RepV.bool hs
        have refined : ∀ v : Bool, b = v → St.eqv s { s with slots := (t, .dat .bool v) :: s.slots } := by
          intro v hv
          refine ⟨fun t' => ?_, fun _ => rfl⟩
          show _ = look .poison ((t, S.dat .bool v) :: s.slots) t'
          rw [look_cons]
          by_cases e : t = t'
          · rw [if_pos e, ← e, hb, hv]
          · rw [if_neg e]
        cases hbb : (b : Bool) with
        | true =>
          rw [hbb, cond_true] at h
          rw [hbb] at hv
          exact wpIn_cond_true hv (ihx hC hp hE (hinv.eqv (refined true hbb)) hJ h hK)
        | false =>
          rw [hbb, cond_false] at h
          rw [hbb] at hv
          exact wpIn_cond_false hv (ihy hC hp hE (hinv.eqv (refined false hbb)) hJ h hK)
      · cases h
    · rename_i b
      cases b with
      | true => exact wpIn_cond_true rfl (ihx hC hp hE hinv hJ h hK)
      | false => exact wpIn_cond_false rfl (ihy hC hp hE hinv hJ h hK)
    · cases h
  | block id c ih =>
    intro C hC F hp hE s K Q g a w r hinv hJ h hK
    refine wpIn_block (ih hC hp hE hinv hJ h fun e s' g' a' w' r' hi hj hk => ?_)
    cases e with
    | normal => exact hK .normal s' g' a' w' r' hi hj hk
    | ret => exact hK .ret s' g' a' w' r' hi hj hk
    | exit id' =>
      simp only at hk
      show (if id' = id then Q .normal a' w' else Q (.exit id') a' w')
      by_cases e : id' = id
      · rw [e, Nat.beq_refl, cond_true] at hk
        rw [if_pos e]
        exact hK .normal s' g' a' w' r' hi hj hk
      · have : Nat.beq id' id = false := by
          cases hb : Nat.beq id' id with
          | false => rfl
          | true => exact absurd (Nat.eq_of_beq_eq_true hb) e
        rw [this, cond_false] at hk
        rw [if_neg e]
        exact hK (.exit id') s' g' a' w' r' hi hj hk
  | loop c ih =>
    intro C hC F hp hE s K Q g a w r hinv hJ h hK
    simp only [exec] at h
    split at h
    · rename_i s0 hs0
      obtain ⟨g0, hg0, hinv0⟩ := hinv.keep hs0
      have key : ∀ (m : Nat) (s : St) (g : Gs) (a : Act) (w : World) (r : R), Inv P C.ntmps F g s a w → J r g.G w → iter (fun s K => exec em C n c s K) (fun s => s.keep (C.keep (headOf c))) K m s = some r → Code.roundsIn (wr F.rd) 0 P c Q m a w := by
        intro m
        induction m with
        | zero => intro s g a w r _ _ h; cases h
        | succ m ihm =>
          intro s g a w r hinv hJ h
          rw [roundsIn_succ]
          refine ih hC hp hE hinv hJ h fun e s' g' a' w' r' hi hj hk => ?_
          cases e with
          | normal =>
            simp only at hk
            split at hk
            · rename_i s'' hs''
              obtain ⟨g'', hg'', hi''⟩ := hi.keep hs''
              exact ihm s'' g'' a' w' r' hi'' (by rw [hg'']; exact hj) hk
            · cases hk
          | exit id => exact hK (.exit id) s' g' a' w' r' hi hj hk
          | ret => exact hK .ret s' g' a' w' r' hi hj hk
      exact wpIn_loop_rounds n (key n s0 g0 a w r hinv0 (by rw [hg0]; exact hJ) h)
    · cases h
  | scope c ih =>
    intro C hC F hp hE s K Q g a w r hinv hJ h hK
    refine wpIn_scope (ih hC hp hE hinv hJ h fun e s' g' a' w' r' hi hj hk => ?_)
    have := hK e s' g' a' w' r' hi hj hk
    cases e <;> exact this
  | rangeFunc f ps assign body iha ihb =>
    intro C hC F hp hE s K Q g a w r hinv hJ h hK
    simp only [exec] at h
    split at h
    · rename_i es xs hp hf
      split at h
      · rename_i s0 hs0
        cases hb : ps.toList.all (fun p => Nat.blt p C.ntmps && !mem p (C.keep (headR assign body)).1) && nodup ps.toList with
        | false => rw [hb] at h; cases h
        | true =>
          rw [hb, cond_true] at h
          simp only [Bool.and_eq_true, List.all_eq_true, Bool.not_eq_true'] at hb
          obtain ⟨hb1, hnd⟩ := hb
          obtain ⟨T0, ge, hT0, hinve, hJe, hrunf⟩ : ∃ (T0 : Nat) (ge : Gs), F.t ≤ T0 ∧ Inv P C.ntmps { F with t := T0 } ge { slots := s.slots, heap := hp } a w ∧ J r ge.G w ∧
              ∃ gf first caps, a.eval f = .func (.func gf) first caps ∧ Callable P gf ∧ ∀ G1 W1, Fwd ge.G w G1 W1 → (∀ k, w.heap.size ≤ k → k < W1.heap.size → (G1 k).upto F.t) → SeqRun P gf first caps es xs F.t G1 W1 := by
            have hev := hinv.ev f
            unfold seqOf at hf
            split at hf
            · rename_i hv
              cases hf
              rw [hv] at hev
              obtain ⟨gf, first, caps, hv', hcall, hrun⟩ := hev
              refine ⟨F.t, g, Nat.le_refl _, hinv, hJ, gf, first, caps, hv', hcall, fun G1 W1 hfw hnew => hrun F.t G1 W1 hfw.adv fun k hk => ?_⟩
              by_cases hkw : k < w.heap.size
              · rw [hfw.own k hkw]; exact hinv.lv k hkw
              · exact hnew k (by omega) hk
            · rename_i id n hv
              split at hf
              · rename_i es' xs' hbox
                cases hf
                rw [hv] at hev
                obtain ⟨g', i1, i2, gf, caps, hv', hcall, hrun⟩ := hinv.unseal hbox hev
                refine ⟨F.t + 1, g', Nat.le_succ _, i1, hE.ab _ _ _ _ _ hJ (i2.mono fun o ho => ?_), gf, #[], caps, hv', hcall, hrun⟩
                have hlt := hE.lt
                cases o with
                | stays => trivial
                | mine j => have ho : j ≤ τ := ho; show j ≠ F.m; omega
                | room j hi => have ho : j ≤ τ := ho; show j ≠ F.m; omega
              · cases hf
            · cases hf
          have hentry : Inv P C.ntmps { F with t := T0 } ge { slots := entrySlots s (C.keep (headR assign body)).1, heap := hp } a w := hinve.onSlots fun t u hl => by
            obtain ⟨_, rfl⟩ := lookO_keys (fun k => noTip (look .poison s.slots k)) _ t u hl
            exact (hinve.slots t).noTip
          obtain ⟨g0, hg0, hinv0⟩ := hentry.keep hs0
          have hs0keys := keep_keys hs0
          have hbase0 : ∀ t u, (t, u) ∈ baseSlots s0 → ∃ v, (t, v) ∈ s0.slots ∧ u = noTip v := by
            intro t u hm
            obtain ⟨p, hp, e⟩ := List.mem_map.1 hm
            cases e
            exact ⟨p.2, hp, rfl⟩
          have hinvb : Inv P C.ntmps { F with t := T0 } g0 { slots := baseSlots s0, heap := s0.heap } a w := hinv0.onSlots fun t u hl => by
            have hl' : ∀ (l : List (Nat × S)), lookO (l.map fun p => (p.1, noTip p.2)) t = some u → ∃ v, lookO l t = some v ∧ u = noTip v := by
              intro l
              induction l with
              | nil => intro h; cases h
              | cons p l ih =>
                obtain ⟨k, v⟩ := p
                intro h
                rw [List.map_cons, lookO_cons] at h
                rw [lookO_cons]
                by_cases e : k = t
                · rw [if_pos e] at h ⊢
                  cases h
                  exact ⟨v, rfl, rfl⟩
                · rw [if_neg e] at h ⊢
                  exact ih h
            obtain ⟨v, hv, rfl⟩ := hl' _ hl
            have := hinv0.slots t
            rw [look_lookO, hv] at this
            exact this.noTip
          refine rangeFunc_sound hT0 hinv.mt hinv.lv0 (base := baseSlots s0) (ks := C.keep (headR assign body)) hE (fun t u hm => ?_) (fun p hp => by simpa using (hb1 p hp).1) hnd (fun p hp hk => ?_) ?_ ?_ hinvb (by rw [hg0]; exact hJe) (by rw [hg0]; exact hrunf) h hK
          · obtain ⟨v, _, rfl⟩ := hbase0 t u hm
            rcases noTip_plain v with h1 | ⟨id, n, root, π, h1, _⟩
            · exact .inl h1
            · exact .inr ⟨id, n, root, π, h1⟩
          · obtain ⟨q, hq, e⟩ := List.mem_map.1 hk
            obtain ⟨q', hq', e'⟩ := List.mem_map.1 hq
            have h1 := hs0keys q' hq'
            have h2 := (hb1 p hp).2
            have : p = q'.1 := by rw [← e, ← e']
            rw [this, mem_iff.2 h1] at h2
            cases h2
          · -- one round
            intro x F1 l rc O g1 h1 lps tm W K' r' Q' hrd hobjs hO hpins hE1 hst hi1 hj1 hlps hbody hK'
            simp only [hlps] at hbody
            have hC1 : CtxOk P { C with pins := ptrSlots (baseSlots s0) } := ⟨hC.types, hC.fts, hC.pts, hC.fns, hC.cls, hC.sqs, hC.ems, hC.mixed, hC.ons, hC.des⟩
            have e1 : wr (some l) = wr F1.rd := by rw [hrd]
            rw [e1]
            refine iha hC1 (F := F1) hpins hE1 hi1 hj1 hbody fun e s' g' a' w' r'' hi hj hk => ?_
            cases e with
            | exit id => cases hk
            | ret => cases hk
            | normal =>
              simp only at hk
              have hl := hi.objs l (.loop rc) (by rw [hobjs]; exact List.mem_cons_self)
              refine ⟨_, run_beginRound hl.1 hst, ?_⟩
              have hi2 := Inv.putObj (O := []) (O' := (l, .loop { rc with state := .busy }) :: O) (ds := a'.defers) (o' := .loop { rc with state := .busy }) hi hl.1 rfl hl.2.2 (by
                obtain ⟨OM, om1, om2, om3⟩ := hi.defers.lt
                refine om3 _ _ fun l' o ho => ?_
                obtain ⟨q1, q2, q3⟩ := om2 l' o ho
                have hne : l' ≠ l := by
                  intro e0
                  have h2 := om1 _ ho
                  simp only at h2
                  rw [h2, e0, hl.1] at q1
                  cases q1
                exact ⟨by rw [World.putObj_heap_other hne]; exact q1, q2, q3⟩) (fun l' o ho => by
                rcases List.mem_cons.1 ho with ho | ho
                · cases ho
                  exact ⟨World.putObj_heap_same (Array.getElem?_eq_some_iff.1 hl.1).1, rfl, hl.2.2⟩
                · obtain ⟨q1, q2, q3⟩ := hi.objs l' o (by rw [hobjs]; exact List.mem_cons_of_mem _ ho)
                  exact ⟨by rw [World.putObj_heap_other (hO _ ho)]; exact q1, q2, q3⟩) (fun l' hl' => by
                rw [hrd] at hl'
                cases hl'
                exact ⟨_, List.mem_cons_self⟩)
              have hE2 : EmOk P { F1 with objs := (l, .loop { rc with state := .busy }) :: O } τ em J := ⟨hE1.lt, hE1.ab, hE1.y⟩
              have hj2 : J r'' g'.G (w'.putObj l (.loop { rc with state := .busy })) := hE1.ab _ _ _ _ _ hj (Kp.putObj hl.1 rfl (fun hu => by
                rw [hl.2.2] at hu
                have hu : F1.m ≤ τ := hu
                have := hE1.lt
                omega))
              exact ihb hC1 (F := { F1 with objs := (l, .loop { rc with state := .busy }) :: O }) hpins hE2 hi2 hj2 hk hK'
          · intro x s K r h
            cases hps : parSlots ps.toList es x with
            | none => rw [hps] at h; cases h
            | some l => exact ⟨l, rfl⟩
      · cases h
    · cases h
  | exit id => intro C hC F hp hE s K Q g a w r hinv hJ h hK; exact wpIn_exit (hK (.exit id) s g a w r hinv hJ h)
  | ret => intro C hC F hp hE s K Q g a w r hinv hJ h hK; exact wpIn_ret (hK .ret s g a w r hinv hJ h)
  | _ => intro C hC F hp hE s K Q g a w r hinv hJ h hK; cases h
end Go.Vi

/- Contracts of functions and closures out of what the interpreter computes. -/
namespace Go.Vi
open Go.RowKit (Below)

section
variable {P : Program} {G : Gh} {w : World}

theorem ofP_rel {H : Heap} {g : Gs} (hg : g.G = G) : ∀ {p : PTy} {x : p.den} {v : Value}, ArgP P G w p x v → SRel0 P H g w (argSlots.ofP p x) v
  | .data _, _, _, h => by subst hg; exact h
  | .cptr _, _, _, h => by subst hg; exact h
  | .fnp _ _, _, _, h => by subst hg; exact h
  | .seqp _, _, _, h => by subst hg; exact h
  | .nils _, _, _, h => h

theorem argsP_len : ∀ (ps : List PTy) (x : pdens ps) (vs : List Value), ArgsP P G w ps x vs → vs.length = ps.length
  | [], _, _, h => by subst h; rfl
  | [_], _, _, ⟨_, h, _⟩ => by subst h; rfl
  | _ :: q :: ps, x, _, ⟨_, vs', h, _, h2⟩ => by subst h; simp [argsP_len (q :: ps) x.2 vs' h2]
theorem argsD_len : ∀ (ps : List Ty) (x : dens ps) (vs : List Value), ArgsD G w ps x vs → vs.length = ps.length
  | [], _, _, h => by subst h; rfl
  | [_], _, _, ⟨_, h, _⟩ => by subst h; rfl
  | _ :: q :: ps, x, _, ⟨_, vs', h, _, h2⟩ => by subst h; simp [argsD_len (q :: ps) x.2 vs' h2]

theorem argSlots_rel {H : Heap} {g : Gs} (hg : g.G = G) : ∀ (ps : List PTy) (x : pdens ps) (vs : List Value), ArgsP P G w ps x vs → ∀ (i t : Nat) (u : S), lookO (argSlots ps x i) t = some u → ∃ v, i ≤ t ∧ vs[t - i]? = some v ∧ SRel0 P H g w u v
  | [], _, _, _, i, t, u, hl => by cases hl
  | [p], x, _, ⟨v, h1, h2⟩, i, t, u, hl => by
    subst h1
    simp only [argSlots] at hl
    rw [lookO_cons] at hl
    by_cases e : i = t
    · rw [if_pos e] at hl
      cases hl
      exact ⟨v, by omega, by simp [e], ofP_rel hg h2⟩
    · rw [if_neg e] at hl; cases hl
  | p :: q :: ps, x, _, ⟨v, vs', h1, h2, h3⟩, i, t, u, hl => by
    subst h1
    simp only [argSlots] at hl
    rw [lookO_cons] at hl
    by_cases e : i = t
    · rw [if_pos e] at hl
      cases hl
      exact ⟨v, by omega, by simp [e], ofP_rel hg h2⟩
    · rw [if_neg e] at hl
      obtain ⟨v', h4, h5, h6⟩ := argSlots_rel (H := H) hg (q :: ps) x.2 vs' h3 (i + 1) t u hl
      refine ⟨v', by omega, ?_, h6⟩
      rw [show t - i = (t - (i + 1)) + 1 by omega, List.getElem?_cons_succ]; exact h5

theorem datSlots_rel {H : Heap} {g : Gs} (hg : g.G = G) : ∀ (ps : List Ty) (x : dens ps) (vs : List Value), ArgsD G w ps x vs → ∀ (i t : Nat) (u : S), lookO (datSlots ps x i) t = some u → ∃ v, i ≤ t ∧ vs[t - i]? = some v ∧ SRel0 P H g w u v
  | [], _, _, _, i, t, u, hl => by cases hl
  | [p], x, _, ⟨v, h1, h2⟩, i, t, u, hl => by
    subst h1
    simp only [datSlots] at hl
    rw [lookO_cons] at hl
    by_cases e : i = t
    · rw [if_pos e] at hl
      cases hl
      exact ⟨v, by omega, by simp [e], by rw [← hg] at h2; exact h2⟩
    · rw [if_neg e] at hl; cases hl
  | p :: q :: ps, x, _, ⟨v, vs', h1, h2, h3⟩, i, t, u, hl => by
    subst h1
    simp only [datSlots] at hl
    rw [lookO_cons] at hl
    by_cases e : i = t
    · rw [if_pos e] at hl
      cases hl
      exact ⟨v, by omega, by simp [e], by rw [← hg] at h2; exact h2⟩
    · rw [if_neg e] at hl
      obtain ⟨v', h4, h5, h6⟩ := datSlots_rel (H := H) hg (q :: ps) x.2 vs' h3 (i + 1) t u hl
      refine ⟨v', by omega, ?_, h6⟩
      rw [show t - i = (t - (i + 1)) + 1 by omega, List.getElem?_cons_succ]; exact h5

/-- The begin of a call. -/
def tmps0 (N : Nat) (vs : List Value) : Array Value := vs.toArray ++ Array.replicate (N - vs.toArray.size) undef
def frame0 (N : Nat) (pins : List Nat) (vs : List Value) (k : Nat) (p : Own → Prop) (l : Nat) (G : Gh) (w : World) : Fr :=
  { m := k + 1, t := k + 1, B := w.heap.size, G, w, p, rd := none, objs := [], pins, pv := fun t => (tmps0 N vs).getD t undef, yl := l }
theorem Inv.start {slots : List (Nat × S)} {vs : List Value} {N : Nat} (hlen : vs.length ≤ N) {k l : Nat} {p : Own → Prop} (hlv : Lv k G w) (hp : ∀ o, p o → Own.offs (k + 1) o) (pins : List Nat)
    (hs : ∀ g : Gs, g.G = G → g.yl = l → ∀ t u, lookO slots t = some u → ∃ v, vs[t]? = some v ∧ SRel0 P [] g w u v) :
    ∃ g, g.G = G ∧ Inv P N (frame0 N pins vs k p l G w) g { slots := slots, heap := [] } { tmps := tmps0 N vs, defers := [] } w := by
  refine ⟨⟨G, fun _ _ => 0, fun _ => (undef, 0), l⟩, rfl, fun t => ?_, by simp [tmps0]; omega, Marks.nil _ _ _, ⟨fun id n fz c hl => (by cases hl), fun T n hl => (by cases hl), fun id n fz c id' n' fz' c' hl => (by cases hl), fun T n T' n' hl => (by cases hl)⟩, Kp.refl _ _ _,
    hlv.mono (Nat.le_succ _), Nat.le_refl _, Nat.le_refl _, fun l o h => (by cases h), fun t _ => rfl, rfl, hp, fun l h => (by cases h), hlv.mono (Nat.le_succ _)⟩
  rw [look_lookO]
  cases hl : lookO slots t with
  | none => exact SRel.of0 (s := .poison) trivial
  | some u =>
    obtain ⟨v, h1, h2⟩ := hs ⟨G, fun _ _ => 0, fun _ => (undef, 0), l⟩ rfl rfl t u hl
    have ht : t < vs.length := (List.getElem?_eq_some_iff.1 h1).1
    have : (tmps0 N vs).getD t undef = v := by
      unfold tmps0
      rw [Array.getD_eq_getD_getElem?, Array.getElem?_append_left (by simpa using ht)]
      simp [h1]
    simp only [Option.getD_some]
    rw [this]
    exact SRel.of0 h2

/-- One result. -/
def resOne (tmps : Array Value) : ResultVar → Sem Value
  | .tmp t => pure (tmps.getD t undef)
  | .cell a t => do loadVar t (← asAddr (tmps.getD a undef))

theorem resSlot_rel {C : Ctx} (T : Types P C.tab) {N : Nat} {F : Fr} {g : Gs} {s : St} {a : Act} (hinv : Inv P N F g s a w) (rv : ResultVar) (hp : resSlot C s rv ≠ .poison) :
    ∃ v, (resOne a.tmps rv).run P w = .ok v w ∧ SRel P s.heap g w (resSlot C s rv) v := by
  cases rv with
  | tmp t => exact ⟨_, rfl, hinv.slots t⟩
  | cell ad t =>
    have hs := hinv.slots ad
    simp only [resSlot] at hp ⊢
    split
    · rename_i id n root hl
      rw [hl] at hs hp
      obtain ⟨m, fz0, c0, h1, h2, h3, e1⟩ := hs
      simp only at hp
      split
      · rename_i fz σ x hbox
        rw [hbox] at hp
        simp only at hp
        cases hb : tyIs C t σ && σ.beq root with
        | false => rw [hb] at hp; exact absurd rfl hp
        | true =>
          simp only [Bool.and_eq_true] at hb
          obtain ⟨te, hte, rfl⟩ := tyIs_spec hb.1
          obtain ⟨cs, et, k1, k2, k3, k4, k5⟩ := box_cells hinv hbox
          have hr : Rep g.G w te.ty x cs.toList := k2
          refine ⟨valOf te.ty cs.toList, ?_, SRel.dat ⟨_, hr, rfl⟩⟩
          have := run_loadVar T hte hr (b := g.ι id n) (o := 0) (w := w) (fun j c hj => by rw [Nat.zero_add]; exact k5 j c hj)
          simp only [resOne, e1, asAddr, pathOff, Sem.run_bind, Sem.run_pure, Result.andThen_ok, this]
      · rename_i fz k e x hbox
        rw [hbox] at hp
        simp only at hp
        cases hb : tyIs C t (.slc e) with
        | false => rw [hb] at hp; exact absurd rfl hp
        | true =>
          obtain ⟨te, hte, hty⟩ := tyIs_spec hb
          obtain ⟨cs, et, k1, ⟨v, k2, k2'⟩, k3, k4, k5⟩ := box_cells hinv hbox
          obtain ⟨et', tee, inf, q1, _⟩ := T.slc hte hty
          refine ⟨v, ?_, SRel.of0 k2'⟩
          have hc : w.cell? ⟨g.ι id n, 0, none⟩ = some v := k5 0 v (by rw [k2]; rfl)
          simp [resOne, e1, asAddr, pathOff, loadVar, isAgg, run_underlying q1, hc]
      · rename_i hn1 hn2
        exfalso
        apply hp
        split
        · exact absurd ‹_› (hn1 _ _ _)
        · exact absurd ‹_› (hn2 _ _ _ _)
        · rfl
    · rename_i hn
      exfalso
      apply hp
      split
      · exact absurd ‹_› (hn _ _ _)
      · rfl

theorem run_results {fn : Func} {tmps : Array Value} {vs : List Value} (h : Each (fun rv v => (resOne tmps rv).run P w = .ok v w) fn.results.toList vs) : (results fn tmps).run P w = .ok (tupVal vs) w := by
  have hl : ∀ (l : List ResultVar) (vs : List Value), Each (fun rv v => (resOne tmps rv).run P w = .ok v w) l vs → (l.mapM (resOne tmps)).run P w = .ok vs w := by
    intro l
    induction l with
    | nil => intro vs h; cases vs with
      | nil => rfl
      | cons _ _ => exact h.elim
    | cons x l ih => intro vs h; cases vs with
      | nil => exact h.elim
      | cons v vs =>
        rw [List.mapM_cons]
        simp only [Sem.run_bind, h.1, Result.andThen_ok, ih vs h.2, Sem.run_pure]
  have hm : (fn.results.mapM (resOne tmps)).run P w = .ok vs.toArray w := by
    rw [Array.mapM_eq_mapM_toList]
    simp only [Sem.run_map, hl _ _ h, Result.andThen_ok]
  have he : results fn tmps = (do let vs ← fn.results.mapM (resOne tmps); pure (if h : vs.size = 1 then vs[0] else .tuple vs)) := by
    unfold results
    congr 1
  rw [he]
  simp only [Sem.run_bind, hm, Result.andThen_ok, Sem.run_pure]
  congr 1
  match vs with
  | [] => rfl
  | [v] => rfl
  | v :: v' :: vs => simp [tupVal]

theorem asD_poison {τ : Ty} {x : τ.den} (h : asD τ .poison = some x) : False := by simp [asD] at h

/-- What is the run's own was made by it. -/
def Fr.Fresh (F : Fr) : Prop := ∀ G w, Kp F.p F.G F.w G w → ∀ b, G b = .mine F.m → F.B ≤ b

/-- Results, one by one. -/
theorem asR_val {N : Nat} {F : Fr} {g : Gs} {s : St} {a : Act} (hinv : Inv P N F g s a w) (rt : RTy) (hF : rt.held = true → F.Fresh) {u : S} {v : Value} (h2 : SRel P s.heap g w u v) {r : rt.den} (hr : asR s rt u = some r) : ResP P g.G w F.m F.B rt r v := by
  cases rt with
  | data τ => exact h2.asD (show asD τ u = some r from hr)
  | fresh e =>
    simp only [asR] at hr
    split at hr
    · rename_i tl htip
      have hrep : RepV g.G w (.slc e) r v := h2.asD hr
      refine ⟨hrep, ?_⟩
      unfold hasTip at htip
      split at htip
      · have hv : v = .slice none 0 0 := h2
        exact ⟨none, 0, 0, hv, Nat.le_refl _, .inl rfl⟩
      · obtain ⟨_, ao, n, hv⟩ := h2
        exact ⟨ao, n, n, hv, Nat.le_refl _, .inl rfl⟩
      · rename_i T' n e' x
        cases castD_some (σ := .slc e') hr
        obtain ⟨_, m, hm, hle, hov⟩ := h2
        simp only [hm] at htip
        cases hb : Nat.beq m n with
        | false => rw [hb] at htip; cases htip
        | true =>
          have hov := hov (Nat.eq_of_beq_eq_true hb)
          obtain ⟨ao, k, c, q1, q2, q3⟩ := hinv.heap.tok T' m hm
          rw [hov] at q1 q3
          exact ⟨ao, k, c, q1, q2, q3⟩
      · cases htip
    · cases hr
  | own e =>
    replace hr : asOwn s e u = some r := hr
    unfold asOwn at hr
    split at hr
    · rename_i id n e'
      split at hr
      · rename_i e'' xs hbox
        cases hb : e'.beq e'' with
        | false => rw [hb] at hr; cases hr
        | true =>
          rw [hb, cond_true] at hr
          cases castD_some (σ := .slc e'') hr
          obtain ⟨_, _, hown⟩ := vec_rel hinv h2 hbox
          exact ⟨_, hown⟩
      · cases hr
    · cases hr
      have hv : v = .slice none 0 0 := h2
      exact ⟨0, none, 0, hv, Nat.le_refl _, .inl rfl⟩
    · cases hr
      obtain ⟨hrep, ao, n, hv⟩ := h2
      obtain ⟨ao', cap, hv', _, _⟩ := RepV.slc hrep
      rw [hv] at hv'
      injection hv' with q1 q2 q3
      have hn : n = 0 := q2
      subst hn
      exact ⟨0, ao, 0, hv, Nat.le_refl _, .inl rfl⟩
    · cases hr
  | oncer es =>
    replace hr : asOnce s es u = some r := hr
    unfold asOnce at hr
    split at hr
    · rename_i id n
      split at hr
      · rename_i es' xs hbox
        cases castSeq_some hr
        have hl := box_spec hbox
        obtain ⟨m, fz, c, p1, p2, p3⟩ := h2
        rw [hl] at p1
        cases p1
        have hv := p3 rfl
        have hs : SealRel P g.G w F.m false (g.ι id n) es r (g.ov id).1 := hinv.heap.box id n false _ hl
        rw [← hv] at hs
        have hm : g.G (g.ι id n) = .mine F.m := by
          obtain ⟨_, _, _, _, _, _, _, h5, _⟩ := hs
          rwa [if_neg (by simp)] at h5
        exact ⟨_, hF rfl g.G w hinv.stp _ hm, hs⟩
      · cases hr
    · cases hr
  | seqr es => exact h2.asP (show asP (.seqp es) u = some r from hr)
  | fnr ps rs => exact h2.asP (show asP (.fnp ps rs) u = some r from hr)

theorem asRs_val {N : Nat} {F : Fr} {g : Gs} {s : St} {a : Act} (hinv : Inv P N F g s a w) : ∀ (rs : List RTy) (us : List S) (vs : List Value) (r : rdens rs), (rs.any RTy.held = true → F.Fresh) → Each (SRel P s.heap g w) us vs → asRs s rs us = some r → ResPs P g.G w F.m F.B rs r vs
  | [], [], [], _, _, _, _ => rfl
  | [rt], [u], [v], r, hF, h, hr => ⟨v, rfl, asR_val hinv rt (fun e => hF (by simp [e])) h.1 hr⟩
  | rt :: q :: rs, u :: us, v :: vs, r, hF, h, hr => by
    simp only [asRs] at hr
    rw [Option.bind_eq_some_iff] at hr
    obtain ⟨x, hx, hr⟩ := hr
    rw [Option.map_eq_some_iff] at hr
    obtain ⟨y, hy, rfl⟩ := hr
    exact ⟨v, vs, rfl, asR_val hinv rt (fun e => hF (by simp [e])) h.1 hx, asRs_val hinv (q :: rs) us vs y (fun e => hF (by rw [List.any_cons, e, Bool.or_true])) h.2 hy⟩
  | [], _ :: _, _, _, _, _, hr => by simp [asRs] at hr
  | [_], [], _, _, _, _, hr => by simp [asRs] at hr
  | [_], _ :: _ :: _, _, _, _, _, hr => by simp [asRs] at hr
  | _ :: _ :: _, [], _, _, _, _, hr => by simp [asRs] at hr
  | [], [], _ :: _, _, _, h, _ => h.elim
  | [_], [_], [], _, _, h, _ => h.elim
  | [_], [_], _ :: _ :: _, _, _, h, _ => h.2.elim
  | _ :: _ :: _, _ :: _, [], _, _, h, _ => h.elim

theorem asR_poison {s : St} {rt : RTy} {r : rt.den} (h : asR s rt .poison = some r) : False := by
  cases rt with
  | data τ => exact asD_poison h
  | fresh e => simp [asR, hasTip] at h
  | own e => simp [asR, asOwn] at h
  | oncer es => simp [asR, asOnce] at h
  | seqr es => cases h
  | fnr ps rs => cases h
theorem asRs_poison {s : St} : ∀ (rs : List RTy) (us : List S) (r : rdens rs), asRs s rs us = some r → ∀ u ∈ us, u ≠ .poison
  | [], [], _, _, _, h => by cases h
  | [rt], [u], r, hr, u', h => by
    have : u' = u := by simpa using h
    rw [this]
    intro e
    subst e
    exact asR_poison hr
  | rt :: q :: rs, u :: us, r, hr, u', h => by
    simp only [asRs] at hr
    rw [Option.bind_eq_some_iff] at hr
    obtain ⟨x, hx, hr⟩ := hr
    rw [Option.map_eq_some_iff] at hr
    obtain ⟨y, hy, rfl⟩ := hr
    rcases List.mem_cons.1 h with e | h
    · rw [e]
      intro e
      subst e
      exact asR_poison hx
    · exact asRs_poison (q :: rs) us y hy u' h
  | [], _ :: _, _, hr, _, _ => by simp [asRs] at hr
  | [_], [], _, hr, _, _ => by simp [asRs] at hr
  | [_], _ :: _ :: _, _, hr, _, _ => by simp [asRs] at hr
  | _ :: _ :: _, [], _, hr, _, _ => by simp [asRs] at hr
theorem asDs_poison : ∀ (rs : List Ty) (us : List S) (r : dens rs), asDs rs us = some r → ∀ u ∈ us, u ≠ .poison
  | [], [], _, _, _, h => by cases h
  | [rt], [u], r, hr, u', h => by
    have : u' = u := by simpa using h
    rw [this]
    intro e
    subst e
    exact asD_poison (show asD rt .poison = some r from hr)
  | rt :: q :: rs, u :: us, r, hr, u', h => by
    simp only [asDs] at hr
    rw [Option.bind_eq_some_iff] at hr
    obtain ⟨x, hx, hr⟩ := hr
    rw [Option.map_eq_some_iff] at hr
    obtain ⟨y, hy, rfl⟩ := hr
    rcases List.mem_cons.1 h with e | h
    · rw [e]
      intro e
      subst e
      exact asD_poison hx
    · exact asDs_poison (q :: rs) us y hy u' h
  | [], _ :: _, _, hr, _, _ => by simp [asDs] at hr
  | [_], [], _, hr, _, _ => by simp [asDs] at hr
  | [_], _ :: _ :: _, _, hr, _, _ => by simp [asDs] at hr
  | _ :: _ :: _, [], _, hr, _, _ => by simp [asDs] at hr
theorem thaw_poison {s : St} : ∀ (l : List S) {us : List S} {hw : List (Nat × HC)} {rd : List Nat}, thaw s l = some (us, hw, rd) → (∀ u ∈ us, u ≠ .poison) → ∀ u ∈ l, u ≠ .poison
  | [], _, _, _, _, _, _, h => by cases h
  | u :: l, us, hw, rd, h, hh, u', hu' => by
    unfold thaw at h
    split at h
    · cases ‹u :: l = []›
    · rename_i id n ee l' heq
      cases heq
      split at h
      · rename_i e' _ _
        cases hb : e'.beq ee with
        | false => rw [hb] at h; cases h
        | true =>
          rw [hb, cond_true] at h
          split at h
          · rename_i a b c hf
            cases h
            rcases List.mem_cons.1 hu' with e | hu'
            · rw [e]; simp
            · exact thaw_poison l hf (fun x hx => hh x (List.mem_cons_of_mem _ hx)) u' hu'
          · cases h
      · cases h
    · rename_i u2 l' hne heq
      cases heq
      split at h
      · rename_i a b c hf
        cases h
        rcases List.mem_cons.1 hu' with e | hu'
        · rw [e]; exact hh _ List.mem_cons_self
        · exact thaw_poison l hf (fun x hx => hh x (List.mem_cons_of_mem _ hx)) u' hu'
      · cases h

theorem resSlots_rel {C : Ctx} (T : Types P C.tab) {N : Nat} {F : Fr} {g : Gs} {s : St} {a : Act} (hinv : Inv P N F g s a w) : ∀ (l : List ResultVar), (∀ u ∈ l.map (resSlot C s), u ≠ .poison) →
    ∃ vs, Each (fun rv v => (resOne a.tmps rv).run P w = .ok v w) l vs ∧ Each (SRel P s.heap g w) (l.map (resSlot C s)) vs
  | [], _ => ⟨[], trivial, trivial⟩
  | rv :: l, h => by
    obtain ⟨v, h1, h2⟩ := resSlot_rel T hinv rv (h _ (by simp))
    obtain ⟨vs, h3, h4⟩ := resSlots_rel T hinv l (fun u hu => h u (by simp only [List.map_cons]; exact List.mem_cons_of_mem _ hu))
    exact ⟨v :: vs, ⟨h1, h3⟩, h2, h4⟩

theorem asRs_rel {C : Ctx} (T : Types P C.tab) {N : Nat} {F : Fr} {g : Gs} {s : St} {a : Act} (hinv : Inv P N F g s a w) (rs : List RTy) (hF : rs.any RTy.held = true → F.Fresh) (l : List ResultVar) (r : rdens rs) (hr : asRs s rs (l.map (resSlot C s)) = some r) :
    ∃ vs, Each (fun rv v => (resOne a.tmps rv).run P w = .ok v w) l vs ∧ ResPs P g.G w F.m F.B rs r vs := by
  obtain ⟨vs, h1, h2⟩ := resSlots_rel T hinv l (asRs_poison _ _ _ hr)
  exact ⟨vs, h1, asRs_val hinv rs _ vs r hF h2 hr⟩

theorem endRs_rel {C : Ctx} (T : Types P C.tab) {N : Nat} {F : Fr} {g : Gs} {s : St} {a : Act} (hinv : Inv P N F g s a w) (rs : List RTy) (hF : rs.any RTy.held = true → F.Fresh) (l : List ResultVar) (r : rdens rs) (hr : endRs s rs (l.map (resSlot C s)) = some r) :
    ∃ vs g' s', Each (fun rv v => (resOne a.tmps rv).run P w = .ok v w) l vs ∧ Inv P N F g' s' a w ∧ ResPs P g'.G w F.m F.B rs r vs := by
  generalize hus : l.map (resSlot C s) = us0 at hr
  unfold endRs at hr
  split at hr
  · subst hus
    obtain ⟨vs, h1, h2⟩ := asRs_rel T hinv _ hF l r hr
    exact ⟨vs, g, s, h1, hinv, h2⟩
  · rename_i e id n e'
    split at hr
    · rename_i u hw rd hu
      obtain ⟨vs, h1, h2⟩ := resSlots_rel T hinv l (by rw [hus]; intro u hu; simp at hu; rw [hu]; simp)
      rw [hus] at h2
      match vs, h1, h2 with
      | [v], h1, h2 =>
        obtain ⟨g1, i1, i2, i3, i4⟩ := untie_inv hinv h2.1 hu
        have hi := hinv.ghost i1 i2 i3
        exact ⟨[v], g1, _, h1, hi, asRs_val hi [.fresh e] [u] [v] r hF ⟨i4, trivial⟩ hr⟩
      | [], _, h2 => exact h2.elim
      | _ :: _ :: _, _, h2 => exact h2.2.elim
    · cases hr
  · subst hus
    split at hr
    · rename_i us _ hth
      have hp := thaw_poison _ hth (asRs_poison _ _ _ hr)
      obtain ⟨vs, h1, h2⟩ := resSlots_rel T hinv l hp
      obtain ⟨g1, i1, i2, i3, _, _, _, i8⟩ := thaw_inv hinv _ us [] _ _ hth h2
      have hi := hinv.ghost i1 i2 i3
      exact ⟨vs, g1, s, h1, hi, asRs_val hi _ _ vs r hF i8 hr⟩
    · rename_i us h hw _ hth
      have hp := thaw_poison _ hth (asRs_poison _ _ _ hr)
      obtain ⟨vs, h1, h2⟩ := resSlots_rel T hinv l hp
      obtain ⟨g1, i1, i2, i3, _, _, _, i8⟩ := thaw_inv hinv _ us (h :: hw) _ _ hth h2
      have hi := hinv.ghost i1 i2 i3
      exact ⟨vs, g1, _, h1, hi, asRs_val hi _ _ vs r hF i8 hr⟩
    · cases hr

theorem endDs_rel {C : Ctx} (T : Types P C.tab) {N : Nat} {F : Fr} {g : Gs} {s : St} {a : Act} (hinv : Inv P N F g s a w) (rs : List Ty) (l : List ResultVar) (r : dens rs) (hr : endDs s rs (l.map (resSlot C s)) = some r) :
    ∃ vs g' s', Each (fun rv v => (resOne a.tmps rv).run P w = .ok v w) l vs ∧ Inv P N F g' s' a w ∧ ArgsD g'.G w rs r vs := by
  unfold endDs at hr
  split at hr
  · rename_i us hw _ hth
    have hp := thaw_poison _ hth (asDs_poison _ _ _ hr)
    obtain ⟨vs, h1, h2⟩ := resSlots_rel T hinv l hp
    obtain ⟨g1, i1, i2, i3, _, _, _, i8⟩ := thaw_inv hinv _ us hw _ _ hth h2
    exact ⟨vs, g1, _, h1, hinv.ghost i1 i2 i3, asDs_rel rs us vs r i8 hr⟩
  · cases hr

end

theorem CtxOk.ntmps {P : Program} {C : Ctx} (h : CtxOk P C) (N : Nat) : CtxOk P { C with ntmps := N } := ⟨h.types, h.fts, h.pts, h.fns, h.cls, h.sqs, h.ems, h.mixed, h.ons, h.des⟩

/-- The frame leaves: its marks are taken. -/
theorem leaves_marks {P : Program} {N : Nat} {F : Fr} {R : Type} {em : EmR R} {τ : Nat} {J : R → Gh → World → Prop} (hE : EmOk P F τ em J) (hobjs : F.objs = []) (hrd : F.rd = none) {fn : Func} {tmps : Array Value} {R' : Ending → World → Prop} {g : Gs} {s : St} {r : R} :
    ∀ (Ds : List Nat) {a : Act} {w : World}, a.defers = Ds.map mark → Inv P N F g s a w → J r g.G w → (∀ w2, Inv P N F g s { a with defers := [] } w2 → J r g.G w2 → ∃ v, (results fn tmps).run P w2 = .ok v w2 ∧ R' (.returned v) w2) →
      LeavesInM (wr none) 0 P fn tmps R' a.defers .returning w
  | [], a, w, hd, hinv, hJ, hK => by
    obtain ⟨tm, ds⟩ := a
    have hd : ds = [] := hd
    subst hd
    exact hK w hinv hJ
  | D :: Ds, a, w, hd, hinv, hJ, hK => by
    obtain ⟨tm, ds⟩ := a
    have hd : ds = mark D :: Ds.map mark := hd
    subst hd
    obtain ⟨Ds', h1, h2, h3⟩ := hinv.defers
    have inj : ∀ (l l' : List Nat), l.map mark = l'.map mark → l = l' := by
      intro l
      induction l with
      | nil => intro l' e; cases l' with
        | nil => rfl
        | cons _ _ => cases e
      | cons x l ih => intro l' e; cases l' with
        | nil => cases e
        | cons y l' =>
          simp only [List.map_cons, List.cons.injEq] at e
          have : x = y := by have := congrArg Deferred.target e.1; simpa [mark] using this
          rw [this, ih l' e.2]
    have hDs : D :: Ds = Ds' := inj (D :: Ds) Ds' h1
    subst hDs
    obtain ⟨q1, q2⟩ := h3 D List.mem_cons_self
    obtain ⟨hn1, hn2⟩ := List.nodup_cons.1 h2
    have hi2 := Inv.putObj (O := []) (O' := F.objs) (ds := Ds.map mark) (o' := .deferred none) hinv q1 rfl q2 ⟨Ds, rfl, hn2, fun D' hD' => by
      obtain ⟨p1, p2⟩ := h3 D' (List.mem_cons_of_mem _ hD')
      have hne : D' ≠ D := fun e => hn1 (e ▸ hD')
      exact ⟨by rw [World.putObj_heap_other hne]; exact p1, p2⟩⟩ (fun l' o ho => by rw [hobjs] at ho; cases ho) (fun l' hl' => by rw [hrd] at hl'; cases hl')
    have hj2 : J r g.G (w.putObj D (.deferred none)) := hE.ab _ _ _ _ _ hJ (Kp.putObj q1 rfl (fun hu => by
      rw [q2] at hu
      have hu : F.m ≤ τ := hu
      have := hE.lt
      omega))
    refine ⟨by simp, .inl ⟨D, _, rfl, run_takeDeferred q1, ?_⟩⟩
    exact leaves_marks hE hobjs hrd Ds (a := { tmps := tm, defers := Ds.map mark }) rfl hi2 hj2 hK

/-- Levels, behind a call: what was the callee's own is nobody's, or the caller's. -/
def Own.relev (m t : Nat) : Own → Own
  | .stays => .stays
  | .mine j => if j ≤ t then .mine j else .mine m
  | .room j hi => if j ≤ t then .room j hi else .room m hi
theorem Own.relev_upto {m t : Nat} (h : m ≤ t) : ∀ o : Own, (o.relev m t).upto t
  | .stays => trivial
  | .mine j => by
    by_cases h : j ≤ t
    · rw [show Own.relev m t (.mine j) = .mine j from if_pos h]; exact h
    · rw [show Own.relev m t (.mine j) = .mine m from if_neg h]; exact ‹m ≤ t›
  | .room j hi => by
    by_cases h' : j ≤ t
    · rw [show Own.relev m t (.room j hi) = .room j hi from if_pos h']; exact h'
    · rw [show Own.relev m t (.room j hi) = .room m hi from if_neg h']; exact h
theorem Own.relev_of {m t : Nat} : ∀ {o : Own}, o.upto t → o.relev m t = o
  | .stays, _ => rfl
  | .mine j, h => if_pos h
  | .room j hi, h => if_pos h
def Gh.relev (m t : Nat) (G : Gh) : Gh := fun b => (G b).relev m t
theorem Gh.relev_adv (m t : Nat) (G : Gh) (w : World) : Adv G w (G.relev m t) w := by
  refine ⟨fun b o v hc hs => ⟨hc, ?_⟩⟩
  unfold Gh.st Gh.relev at *
  cases hg : G b with
  | stays => trivial
  | mine j => rw [hg] at hs; exact hs.elim
  | room j hi =>
    rw [hg] at hs
    by_cases h : j ≤ t
    · rw [show Own.relev m t (.room j hi) = .room j hi from if_pos h]; exact hs
    · rw [show Own.relev m t (.room j hi) = .room m hi from if_neg h]; exact hs
theorem resPs_relev {P : Program} {G : Gh} {w : World} {m t B : Nat} : ∀ (rs : List RTy) (x : rdens rs) (us : List Value), ResPs P G w (t + 1) B rs x us → ResPs P (G.relev m t) w m B rs x us := by
  have ha := Gh.relev_adv m t G w
  have one : ∀ (r : RTy) (x : r.den) (v : Value), ResP P G w (t + 1) B r x v → ResP P (G.relev m t) w m B r x v := by
    intro r x v h
    cases r with
    | data τ => exact RepV.adv ha h
    | fresh e =>
      obtain ⟨h1, ao, k, c, h2, h3, h4⟩ := h
      refine ⟨RepV.adv ha h1, ao, k, c, h2, h3, ?_⟩
      rcases h4 with h4 | ⟨b, o1, cur, et, q1, q2, q3⟩
      · exact .inl h4
      · refine .inr ⟨b, o1, cur, et, q1, ?_, q3⟩
        show Own.relev m t (G b) = _
        rw [q2]; exact if_neg (by omega)
    | own e =>
      obtain ⟨b, ao, C, h2, h3, h4⟩ := h
      refine ⟨b, ao, C, h2, h3, ?_⟩
      rcases h4 with h4 | ⟨q1, q2, cs, et, css, rest, q3, q4, q5, q6, q7⟩
      · exact .inl h4
      · refine .inr ⟨q1, q2, cs, et, css, rest, q3, q4, q5.mono fun x y hxy => Rep.adv ha e x y hxy, q6, ?_⟩
        show Own.relev m t (G b) = _
        rw [q7]; exact if_neg (by omega)
    | oncer es =>
      obtain ⟨b, hB, f, caps, cs, et, h1, h2, h4, h5, h6⟩ := h
      refine ⟨b, hB, f, caps, cs, et, h1, h2, h4, ?_, fun τ G1 w1 ha1 => h6 τ G1 w1 (ha.trans ha1)⟩
      rw [if_neg (by simp)] at h5 ⊢
      show Own.relev m t (G b) = _
      rw [h5]; exact if_neg (by omega)
    | seqr es => exact SeqRel.adv ha h
    | fnr ps rs => exact FnRel.adv ha h
  intro rs
  induction rs with
  | nil => intro x us h; exact h
  | cons r rs ih =>
    intro x us h
    cases rs with
    | nil => obtain ⟨v, h1, h2⟩ := h; exact ⟨v, h1, one _ _ _ h2⟩
    | cons q rs => obtain ⟨v, vs, h1, h2, h3⟩ := h; exact ⟨v, vs, h1, one _ _ _ h2, ih _ _ h3⟩

theorem EmOk.none {P : Program} {F : Fr} {R : Type} {k : Nat} (h : F.m = k + 1) (r : R) : EmOk P F k (EmR.no R) (fun r' _ _ => r' = r) := ⟨by omega, fun _ _ _ _ _ h _ => h, .inl fun _ _ _ => rfl⟩

/-- What the end of a call leaves. -/
theorem Inv.leave {P : Program} {N : Nat} {pins : List Nat} {vs : List Value} {k l : Nat} {G : Gh} {w : World} {g : Gs} {s : St} {a : Act} {w2 : World} (h : Inv P N (frame0 N pins vs k (Own.offs (k + 1)) l G w) g s a w2) (hlv : Lv k G w) {m : Nat} (hm : m ≤ k) :
    Fwd G w (g.G.relev m k) w2 ∧ Lv k (g.G.relev m k) w2 := by
  have hf : Fwd G w g.G w2 := Kp.fwd h.stp fun b hb => Own.upto_offs (Nat.lt_succ_self k) _ (hlv b hb)
  refine ⟨⟨hf.below, fun b hb => ?_⟩, fun b hb => Own.relev_upto hm _⟩
  show Own.relev m k (g.G b) = G b
  rw [hf.own b hb]
  exact Own.relev_of (hlv b hb)

theorem frame0_fresh {N : Nat} {pins : List Nat} {vs : List Value} {t l : Nat} {G : Gh} {w : World} (hlv : Lv t G w) : (frame0 N pins vs t (Own.offs (t + 1)) l G w).Fresh := by
  intro G' w' hk b hb
  have hb : G' b = .mine (t + 1) := hb
  show w.heap.size ≤ b
  refine Nat.le_of_not_lt fun hlt => ?_
  have hu := hlv b hlt
  have := (hk.same b hlt (Own.upto_offs (Nat.lt_succ_self t) _ hu)).2
  have this : G' b = G b := this
  rw [this] at hb
  rw [hb] at hu
  have hu : t + 1 ≤ t := hu
  omega

/-- A function's contract, from slots that hold the arguments. -/
theorem calls_of_runS {P : Program} {C : Ctx} (hC : CtxOk P C) {f : FuncId} {fn : Func} (hf : P.funcs[f]? = some fn) {code : Code} (hb : fn.body = some code) {rs : List RTy} {n : Nat} {slots : List (Nat × S)} {vs : List Value} {G : Gh} {w : World} {m t : Nat} (hm : m ≤ t) (hlv : Lv t G w) (hlen : vs.length ≤ fn.ntmps)
    (hs : ∀ g : Gs, g.G = G → ∀ t u, lookO slots t = some u → ∃ v, vs[t]? = some v ∧ SRel0 P [] g w u v) {r : rdens rs} (hrun : runBody { C with ntmps := fn.ntmps } n code fn.results.toList rs { slots := slots, heap := [] } = some r) :
    Calls P f vs.toArray w fun e w' => ∃ us G', e = .returned (tupVal us) ∧ Fwd G w G' w' ∧ Lv t G' w' ∧ ResPs P G' w' m w.heap.size rs r us := by
  obtain ⟨g, hg, hinv⟩ := Inv.start (P := P) (G := G) (w := w) (slots := slots) (vs := vs) (N := fn.ntmps) hlen (k := t) (l := 0) (p := Own.offs (t + 1)) hlv (fun _ h => h) C.pins (fun g hg _ => hs g hg)
  have hC' := hC.ntmps fn.ntmps
  have hE : EmOk P (frame0 fn.ntmps C.pins vs t (Own.offs (t + 1)) 0 G w) t (EmR.no (rdens rs)) (fun r' _ _ => r' = r) := EmOk.none rfl r
  refine calls_of_wr (n := 0) (callsIn_of_wp_marks hf hb trivial (exec_sound code hC' (F := frame0 fn.ntmps C.pins vs t (Own.offs (t + 1)) 0 G w) rfl hE (r := r) hinv rfl hrun fun e s' g' a' w' r' hi hr hk => ?_))
  subst hr
  have fin : endRs s' rs (fn.results.toList.map (resSlot { C with ntmps := fn.ntmps } s')) = some r' → LeavesInM (wr none) 0 P fn a'.tmps (fun e w' => ∃ us G', e = .returned (tupVal us) ∧ Fwd G w G' w' ∧ Lv t G' w' ∧ ResPs P G' w' m w.heap.size rs r' us) a'.defers .returning w' := by
    intro hk
    obtain ⟨Ds, hds, _⟩ := hi.defers
    refine leaves_marks hE rfl rfl (r := r') Ds hds hi rfl fun w2 hi2 _ => ?_
    obtain ⟨vs, g3, s3, h1, hi3, h2⟩ := endRs_rel (C := { C with ntmps := fn.ntmps }) hC.types hi2 rs (fun _ => frame0_fresh hlv) fn.results.toList r' hk
    obtain ⟨l1, l2⟩ := hi3.leave hlv hm
    exact ⟨_, run_results h1, vs, _, rfl, l1, l2, resPs_relev rs r' vs h2⟩
  cases e with
  | normal => exact fin hk
  | ret => exact fin hk
  | exit id => cases hk

/-- A function's contract. -/
theorem soundE_of_run {P : Program} {C : Ctx} (hC : CtxOk P C) {f : FuncId} {fn : Func} (hf : P.funcs[f]? = some fn) (hname : (fn.name == "runtime.NumGoroutine") = false) (hbody : fn.body.isSome = true) {en : Ent} {n : Nat}
    (h : ∀ x r, en.g x = some r → run C n fn en.ps en.rs x = some r) : SoundE P f en := by
  obtain ⟨code, hb⟩ := Option.isSome_iff_exists.1 hbody
  refine ⟨⟨fn, hf, hbody, hname⟩, fun m t G w hm hlv xs vs hxs r hr => ?_⟩
  have hrun := h xs r hr
  unfold run at hrun
  rw [hb] at hrun
  simp only at hrun
  cases hle : Nat.ble en.ps.length fn.ntmps with
  | false => rw [hle] at hrun; cases hrun
  | true =>
    rw [hle, cond_true] at hrun
    have hlen := argsP_len en.ps xs vs hxs
    exact calls_of_runS hC hf hb hm hlv (by rw [hlen]; exact Nat.le_of_ble_eq_true hle) (fun g hg t u hl => by
      obtain ⟨v, _, h2, h3⟩ := argSlots_rel (H := []) hg en.ps xs vs hxs 0 t u hl
      exact ⟨v, h2, h3⟩) hrun

/-- The contract of a function of one slice that asks whether it is nil. -/
theorem soundE_of_nil {P : Program} {C : Ctx} (hC : CtxOk P C) {f : FuncId} {fn : Func} (hf : P.funcs[f]? = some fn) (hname : (fn.name == "runtime.NumGoroutine") = false) (hbody : fn.body.isSome = true) (hle : Nat.ble 1 fn.ntmps = true)
    {e : Ty} {rs : List RTy} {g : List e.den → Option (rdens rs)} {n : Nat}
    (h0 : ∀ r, g [] = some r → runS C n fn [(0, .nil)] rs = some r) (h1 : ∀ x r, g x = some r → runS C n fn [(0, .lst .nn e x)] rs = some r) : SoundE P f ⟨[.data (.slc e)], rs, g⟩ := by
  obtain ⟨code, hb⟩ := Option.isSome_iff_exists.1 hbody
  refine ⟨⟨fn, hf, hbody, hname⟩, fun m t G w hm hlv xs vs hxs r hr => ?_⟩
  obtain ⟨v, rfl, hv⟩ := hxs
  have hv : RepV G w (.slc e) xs v := hv
  obtain ⟨cs, hcs, hvv⟩ := id hv
  obtain ⟨ao, cap, rfl, hle2, hrest⟩ := hcs
  have hvv : v = .slice ao xs.length cap := hvv
  unfold runS at h0 h1
  rw [hb] at h0 h1
  simp only at h0 h1
  cases ao with
  | none =>
    have hrest : cap = 0 := hrest
    subst hrest
    have : xs = [] := List.length_eq_zero_iff.1 (by omega)
    subst this
    refine calls_of_runS hC hf hb hm hlv (slots := [(0, .nil)]) (by simpa using Nat.le_of_ble_eq_true hle) (fun g hg t u hl => ?_) (h0 r hr)
    rw [lookO_cons] at hl
    by_cases ht : 0 = t
    · rw [if_pos ht] at hl
      cases hl
      exact ⟨v, by rw [← ht]; rfl, hvv⟩
    · rw [if_neg ht] at hl; cases hl
  | some ad =>
    refine calls_of_runS hC hf hb hm hlv (slots := [(0, .lst .nn e xs)]) (by simpa using Nat.le_of_ble_eq_true hle) (fun g hg t u hl => ?_) (h1 xs r hr)
    rw [lookO_cons] at hl
    by_cases ht : 0 = t
    · rw [if_pos ht] at hl
      cases hl
      subst hg
      exact ⟨v, by rw [← ht]; rfl, hv, ad, _, _, hvv⟩
    · rw [if_neg ht] at hl; cases hl

/-- A closure's contract. -/
theorem soundC_of_run {P : Program} {C : Ctx} (hC : CtxOk P C) {f : FuncId} {fn : Func} (hf : P.funcs[f]? = some fn) (hname : (fn.name == "runtime.NumGoroutine") = false) (hbody : fn.body.isSome = true) {cl : Cl} {n : Nat}
    (h : ∀ x c r, cl.g x c = some r → runC C n fn cl.ps cl.caps cl.rs x c = some r) : SoundC P f cl := by
  obtain ⟨code, hb⟩ := Option.isSome_iff_exists.1 hbody
  refine ⟨⟨fn, hf, hbody, hname⟩, fun t G w hlv xs vs cs ws hxs hcs r hr => ?_⟩
  have hrun := h xs cs r hr
  unfold runC at hrun
  rw [hb] at hrun
  simp only at hrun
  cases hle : Nat.ble (cl.ps.length + cl.caps.length) fn.ntmps with
  | false => rw [hle] at hrun; cases hrun
  | true =>
    rw [hle, cond_true] at hrun
    have hlen1 := argsD_len cl.ps xs vs hxs
    have hlen2 := argsP_len cl.caps cs ws hcs
    obtain ⟨g, hg, hinv⟩ := Inv.start (P := P) (G := G) (w := w) (slots := datSlots cl.ps xs 0 ++ argSlots cl.caps cs cl.ps.length) (vs := vs ++ ws) (N := fn.ntmps) (by rw [List.length_append, hlen1, hlen2]; exact Nat.le_of_ble_eq_true hle) (k := t) (l := 0) (p := Own.offs (t + 1)) hlv (fun _ h => h) C.pins (fun g hg _ t u hl => by
      rw [lookO_append] at hl
      cases hl1 : lookO (datSlots cl.ps xs 0) t with
      | some u' =>
        rw [hl1] at hl
        cases hl
        obtain ⟨v, _, h2, h3⟩ := datSlots_rel (H := []) hg cl.ps xs vs hxs 0 t _ hl1
        have ht : t < vs.length := (List.getElem?_eq_some_iff.1 h2).1
        exact ⟨v, by rw [List.getElem?_append_left ht]; exact h2, h3⟩
      | none =>
        rw [hl1, Option.none_or] at hl
        obtain ⟨v, hle', h2, h3⟩ := argSlots_rel (H := []) hg cl.caps cs ws hcs cl.ps.length t u hl
        exact ⟨v, by rw [List.getElem?_append_right (by omega), hlen1]; exact h2, h3⟩)
    have hC' := hC.ntmps fn.ntmps
    have hargs : vs.toArray ++ ws.toArray = (vs ++ ws).toArray := by simp
    rw [hargs]
    have hE : EmOk P (frame0 fn.ntmps C.pins (vs ++ ws) t (Own.offs (t + 1)) 0 G w) t (EmR.no (dens cl.rs)) (fun r' _ _ => r' = r) := EmOk.none rfl r
    refine calls_of_wr (n := 0) (callsIn_of_wp_marks hf hb trivial (exec_sound code hC' (F := frame0 fn.ntmps C.pins (vs ++ ws) t (Own.offs (t + 1)) 0 G w) rfl hE (r := r) hinv rfl hrun fun e s' g' a' w' r' hi hr' hk => ?_))
    subst hr'
    have fin : endDs s' cl.rs (fn.results.toList.map (resSlot { C with ntmps := fn.ntmps } s')) = some r' → LeavesInM (wr none) 0 P fn a'.tmps (fun e w' => ∃ v G', e = .returned v ∧ Fwd G w G' w' ∧ Lv t G' w' ∧ ResD G' w' cl.rs r' v) a'.defers .returning w' := by
      intro hk
      obtain ⟨Ds, hds, _⟩ := hi.defers
      refine leaves_marks hE rfl rfl (r := r') Ds hds hi rfl fun w2 hi2 _ => ?_
      obtain ⟨vs, g3, s3, h1, hi3, h2⟩ := endDs_rel (C := { C with ntmps := fn.ntmps }) hC.types hi2 cl.rs fn.results.toList r' hk
      obtain ⟨l1, l2⟩ := hi3.leave hlv (Nat.le_refl t)
      exact ⟨_, run_results h1, _, _, rfl, l1, l2, vs, ArgsD.adv (Gh.relev_adv t t g3.G w2) _ _ _ h2, rfl⟩
    cases e with
    | normal => exact fin hk
    | ret => exact fin hk
    | exit id => cases hk

/-- An iterator's contract. -/
theorem soundQ_of_run {P : Program} {C : Ctx} (hC : CtxOk P C) {f : FuncId} {fn : Func} (hf : P.funcs[f]? = some fn) (hname : (fn.name == "runtime.NumGoroutine") = false) (hbody : fn.body.isSome = true) {sq : Sq} {n : Nat}
    (h : ∀ x c xs, sq.g x c = some xs → runQ C n fn sq.firsts sq.es sq.caps x c = some xs) : SoundQ P f sq := by
  obtain ⟨code, hb⟩ := Option.isSome_iff_exists.1 hbody
  refine ⟨⟨fn, hf, hbody, hname⟩, fun τ G w hlv fs vs cs ws hfs hcs xs hxs l J hJ hY hJ0 => ?_⟩
  have hrun := h fs cs xs hxs
  unfold runQ at hrun
  rw [hb] at hrun
  simp only at hrun
  cases hle : Nat.ble (sq.firsts.length + (1 + sq.caps.length)) fn.ntmps && fn.results.toList.isEmpty with
  | false => rw [hle] at hrun; cases hrun
  | true =>
    rw [hle, cond_true] at hrun
    simp only [Bool.and_eq_true] at hle
    obtain ⟨hle, hres⟩ := hle
    have hres : fn.results.toList = [] := List.isEmpty_iff.1 hres
    have hle := Nat.le_of_ble_eq_true hle
    have hlen1 := argsP_len sq.firsts fs vs hfs
    have hlen2 := argsP_len sq.caps cs ws hcs
    obtain ⟨g, hg, hinv⟩ := Inv.start (P := P) (G := G) (w := w) (slots := argSlots sq.firsts fs 0 ++ (sq.firsts.length, .yld sq.es) :: argSlots sq.caps cs (sq.firsts.length + 1)) (vs := vs ++ (.func (.yield l) #[] #[] :: ws)) (N := fn.ntmps)
        (by rw [List.length_append, List.length_cons, hlen1, hlen2]; omega) (k := τ) (l := l) (p := fun _ => False) hlv (fun _ h => h.elim) C.pins (fun g hg hyl t u hl => by
      rw [lookO_append] at hl
      cases hl1 : lookO (argSlots sq.firsts fs 0) t with
      | some u' =>
        rw [hl1] at hl
        cases hl
        obtain ⟨v, _, h2, h3⟩ := argSlots_rel (H := []) hg sq.firsts fs vs hfs 0 t _ hl1
        have ht : t < vs.length := (List.getElem?_eq_some_iff.1 h2).1
        exact ⟨v, by rw [List.getElem?_append_left ht]; exact h2, h3⟩
      | none =>
        rw [hl1, Option.none_or, lookO_cons] at hl
        by_cases e : sq.firsts.length = t
        · rw [if_pos e] at hl
          cases hl
          refine ⟨.func (.yield l) #[] #[], by rw [List.getElem?_append_right (by omega), show t - vs.length = 0 by omega]; rfl, ?_⟩
          show _ = Value.func (.yield g.yl) #[] #[]
          rw [hyl]
        · rw [if_neg e] at hl
          obtain ⟨v, hle', h2, h3⟩ := argSlots_rel (H := []) hg sq.caps cs ws hcs (sq.firsts.length + 1) t u hl
          refine ⟨v, ?_, h3⟩
          rw [List.getElem?_append_right (by omega), show t - vs.length = (t - (sq.firsts.length + 1)) + 1 by omega, List.getElem?_cons_succ]
          exact h2)
    have hC' := hC.ntmps fn.ntmps
    have hargs : vs.toArray ++ #[.func (.yield l) #[] #[]] ++ ws.toArray = (vs ++ (.func (.yield l) #[] #[] :: ws)).toArray := by simp
    rw [hargs]
    have hE : EmOk P (frame0 fn.ntmps C.pins (vs ++ (.func (.yield l) #[] #[] :: ws)) τ (fun _ => False) l G w) τ (EmR.seq sq.es) J := ⟨Nat.lt_succ_self _, hJ, .inr ⟨fun _ h => h.elim, hY⟩⟩
    refine calls_of_wr (n := 0) (callsIn_of_wp_marks hf hb trivial (exec_sound code hC' (F := frame0 fn.ntmps C.pins (vs ++ (.func (.yield l) #[] #[] :: ws)) τ (fun _ => False) l G w) rfl hE (r := xs) hinv (by rw [hg]; exact hJ0) hrun fun e s' g' a' w' r' hi hj hk => ?_))
    have fin : r' = [] → LeavesInM (wr none) 0 P fn a'.tmps (fun e w' => ∃ v G', e = .returned v ∧ J [] G' w') a'.defers .returning w' := by
      intro hr'
      subst hr'
      obtain ⟨Ds, hds, _⟩ := hi.defers
      refine leaves_marks hE rfl rfl (r := []) Ds hds hi hj fun w2 hi2 hj2 => ?_
      exact ⟨_, run_results (vs := []) (by rw [hres]; trivial), _, g'.G, rfl, hj2⟩
    cases e with
    | normal => exact fin (Option.some.inj hk).symm
    | ret => exact fin (Option.some.inj hk).symm
    | exit id => cases hk

/-- The contract of an iterator with one variable of its own. -/
theorem soundO_of_run {P : Program} {C : Ctx} (hC : CtxOk P C) {f : FuncId} {fn : Func} (hf : P.funcs[f]? = some fn) (hname : (fn.name == "runtime.NumGoroutine") = false) (hbody : fn.body.isSome = true) {oq : Oq} {n : Nat}
    (h : ∀ y xs, oq.g y = some xs → runO C n fn oq.es oq.τ y = some xs) : SoundO P f oq := by
  obtain ⟨code, hb⟩ := Option.isSome_iff_exists.1 hbody
  refine ⟨⟨fn, hf, hbody, hname⟩, fun τ G w b cs et y hblk hGb hup hrep xs hxs l J hJ hY hJ0 => ?_⟩
  have hrun := h y xs hxs
  unfold runO at hrun
  rw [hb] at hrun
  simp only at hrun
  cases hle : Nat.ble 2 fn.ntmps && fn.results.toList.isEmpty with
  | false => rw [hle] at hrun; cases hrun
  | true =>
    rw [hle, cond_true] at hrun
    simp only [Bool.and_eq_true] at hle
    obtain ⟨hle, hres⟩ := hle
    have hres : fn.results.toList = [] := List.isEmpty_iff.1 hres
    have hle := Nat.le_of_ble_eq_true hle
    have hlv1 : Lv (τ + 1) G w := fun k hk => by
      by_cases e : k = b
      · rw [e, hGb]; exact Nat.le_refl (τ + 1)
      · exact Own.upto_mono (Nat.le_succ _) (hup k hk e)
    obtain ⟨vs, hvs⟩ : ∃ vs : List Value, vs = [.func (.yield l) #[] #[], .pointer (some ⟨b, 0, none⟩)] := ⟨_, rfl⟩
    obtain ⟨F, hF⟩ : ∃ F : Fr, F = frame0 fn.ntmps C.pins vs τ (fun _ => False) l G w := ⟨_, rfl⟩
    have hsize : (tmps0 fn.ntmps vs).size = fn.ntmps := by simp [tmps0, hvs]; omega
    have htmp : ∀ i v, vs[i]? = some v → (tmps0 fn.ntmps vs).getD i undef = v := by
      intro i v hi
      have ht : i < vs.length := (List.getElem?_eq_some_iff.1 hi).1
      unfold tmps0
      rw [Array.getD_eq_getD_getElem?, Array.getElem?_append_left (by simpa using ht)]
      simp [hi]
    have hinv : Inv P fn.ntmps F ⟨G, fun _ _ => b, fun _ => (undef, 0), l⟩ { slots := [(0, .yld oq.es), (1, .ptr 1 0 oq.τ [])], heap := [(1, .box 0 false (.dat oq.τ y))] } { tmps := tmps0 fn.ntmps vs, defers := [] } w := by
      subst hF
      refine ⟨fun i => ?_, hsize, Marks.nil _ _ _, ⟨fun id n' fz c hl => ?_, fun T n' hl => ?_, fun id n' fz c id' n'' fz' c' h1 h2 hne => ?_, fun T n' T' n'' h1 => ?_⟩, Kp.refl _ _ _, hlv1, Nat.le_refl _, Nat.le_refl _, fun l o h => (by cases h), fun i _ => rfl, rfl, fun _ h => h.elim, fun l h => (by cases h), hlv1⟩
      · rw [look_lookO, lookO_cons]
        by_cases e : 0 = i
        · rw [if_pos e]
          subst e
          rw [htmp 0 _ (by rw [hvs]; rfl)]
          exact SRel.of0 (s := .yld oq.es) rfl
        · rw [if_neg e, lookO_cons]
          by_cases e1 : 1 = i
          · rw [if_pos e1]
            subst e1
            rw [htmp 1 _ (by rw [hvs]; rfl)]
            exact SRel.of0 (s := .ptr 1 0 oq.τ []) ⟨0, false, _, by rw [lookO_cons, if_pos rfl], Nat.le_refl _, trivial, rfl⟩
          · rw [if_neg e1]
            exact SRel.of0 (s := .poison) trivial
      · rw [lookO_cons] at hl
        by_cases e : 1 = id
        · rw [if_pos e] at hl
          cases hl
          exact ⟨cs, et, hblk, hrep, by rw [if_neg (by simp)]; exact hGb⟩
        · rw [if_neg e] at hl; cases hl
      · rw [lookO_cons] at hl
        by_cases e : 1 = T
        · rw [if_pos e] at hl; cases hl
        · rw [if_neg e] at hl; cases hl
      · rw [lookO_cons] at h1 h2
        by_cases e : 1 = id
        · by_cases e' : 1 = id'
          · exact absurd (e.symm.trans e') hne
          · rw [if_neg e'] at h2; cases h2
        · rw [if_neg e] at h1; cases h1
      · rw [lookO_cons] at h1
        by_cases e : 1 = T
        · rw [if_pos e] at h1; cases h1
        · rw [if_neg e] at h1; cases h1
    have hC' := hC.ntmps fn.ntmps
    have hargs : (#[] : Array Value) ++ #[.func (.yield l) #[] #[]] ++ #[.pointer (some ⟨b, 0, none⟩)] = vs.toArray := by rw [hvs]; simp
    rw [hargs]
    have hE : EmOk P F τ (EmR.seq oq.es) J := by rw [hF]; exact ⟨Nat.lt_succ_self _, hJ, .inr ⟨fun _ h => h.elim, hY⟩⟩
    have hrd : F.rd = none := by rw [hF]; rfl
    have hobj : F.objs = [] := by rw [hF]; rfl
    have hpins : F.pins = C.pins := by rw [hF]; rfl
    have key : code.wpIn (wr F.rd) 0 P (bodyPostM (wr none) 0 P fn (fun e w' => ∃ v G', e = .returned v ∧ J [] G' w')) { tmps := tmps0 fn.ntmps vs, defers := [] } w := by
      refine exec_sound code hC' (F := F) hpins hE (r := xs) hinv hJ0 hrun fun e s' g' a' w' r' hi hj hk => ?_
      have fin : r' = [] → LeavesInM (wr none) 0 P fn a'.tmps (fun e w' => ∃ v G', e = .returned v ∧ J [] G' w') a'.defers .returning w' := by
        intro hr'
        subst hr'
        obtain ⟨Ds, hds, _⟩ := hi.defers
        refine leaves_marks hE hobj hrd (r := []) Ds hds hi hj fun w2 hi2 hj2 => ?_
        exact ⟨_, run_results (vs := []) (by rw [hres]; trivial), _, g'.G, rfl, hj2⟩
      cases e with
      | normal => exact fin (Option.some.inj hk).symm
      | ret => exact fin (Option.some.inj hk).symm
      | exit id => cases hk
    rw [hrd] at key
    exact calls_of_wr (n := 0) (callsIn_of_wp_marks hf hb trivial key)

theorem resPs_adv {P : Program} {G G' : Gh} {w w' : World} {m B m' B' : Nat} (ha : Adv G w G' w') : ∀ (rs : List RTy) (x : rdens rs) (us : List Value), rs.any RTy.held = false → ResPs P G w m B rs x us → ResPs P G' w' m' B' rs x us := by
  have one : ∀ (r : RTy) (x : r.den) (v : Value), r.held = false → ResP P G w m B r x v → ResP P G' w' m' B' r x v := by
    intro r x v hf h
    cases r with
    | data τ => exact RepV.adv ha h
    | fresh e => cases hf
    | own e => cases hf
    | oncer es => cases hf
    | seqr es => exact SeqRel.adv ha h
    | fnr ps rs => exact FnRel.adv ha h
  intro rs
  induction rs with
  | nil => intro x us _ h; exact h
  | cons r rs ih =>
    intro x us hf h
    rw [List.any_cons, Bool.or_eq_false_iff] at hf
    cases rs with
    | nil => obtain ⟨v, h1, h2⟩ := h; exact ⟨v, h1, one _ _ _ hf.1 h2⟩
    | cons q rs => obtain ⟨v, vs, h1, h2, h3⟩ := h; exact ⟨v, vs, h1, one _ _ _ hf.1 h2, ih _ _ hf.2 h3⟩

/-- The contract of a function that writes what its first argument points to. -/
theorem soundM_of_run {P : Program} {C : Ctx} (hC : CtxOk P C) {f : FuncId} {fn : Func} (hf : P.funcs[f]? = some fn) (hname : (fn.name == "runtime.NumGoroutine") = false) (hbody : fn.body.isSome = true) {em : Em} {n : Nat}
    (h : ∀ y x q, em.g y x = some q → runM C n fn em.τ em.ps em.rs y x = some q) : SoundM P f em := by
  obtain ⟨code, hb⟩ := Option.isSome_iff_exists.1 hbody
  refine ⟨⟨fn, hf, hbody, hname⟩, fun m t G w hm hlv b cs et y hblk hGb hrep xs vs hxs y' r hr => ?_⟩
  have hrun := h y xs _ hr
  unfold runM at hrun
  rw [hb] at hrun
  simp only at hrun
  cases hle : Nat.ble (1 + em.ps.length) fn.ntmps && !em.rs.any RTy.held with
  | false => rw [hle] at hrun; cases hrun
  | true =>
    rw [hle, cond_true] at hrun
    simp only [Bool.and_eq_true, Bool.not_eq_true'] at hle
    obtain ⟨hle, hfresh⟩ := hle
    have hle := Nat.le_of_ble_eq_true hle
    have hlen := argsP_len em.ps xs vs hxs
    obtain ⟨G1, hG1⟩ : ∃ G1 : Gh, G1 = fun k => if k = b then .mine (t + 1) else G k := ⟨_, rfl⟩
    have hG1b : G1 b = .mine (t + 1) := by rw [hG1]; simp
    have hG1n : ∀ k, k ≠ b → G1 k = G k := fun k hk => by rw [hG1]; simp [hk]
    have hadv1 : Adv G w G1 w := ⟨fun k o v hc hs => ⟨hc, by
      by_cases e : k = b
      · unfold Gh.st at hs
        rw [e, hGb] at hs
        exact hs.elim
      · unfold Gh.st at *
        rw [hG1n k e]; exact hs⟩⟩
    have hlv1 : Lv (t + 1) G1 w := fun k hk => by
      by_cases e : k = b
      · rw [e, hG1b]; exact Nat.le_refl _
      · rw [hG1n k e]; exact Own.upto_mono (Nat.le_succ _) (hlv k hk)
    obtain ⟨pv, hpv⟩ : ∃ pv : Value, pv = .pointer (some ⟨b, 0, none⟩) := ⟨_, rfl⟩
    obtain ⟨F, hF⟩ : ∃ F : Fr, F = frame0 fn.ntmps [0] (pv :: vs) t (Own.offs (t + 1)) 0 G1 w := ⟨_, rfl⟩
    have hsize : (tmps0 fn.ntmps (pv :: vs)).size = fn.ntmps := by simp [tmps0]; omega
    have htmp : ∀ i v, (pv :: vs)[i]? = some v → (tmps0 fn.ntmps (pv :: vs)).getD i undef = v := by
      intro i v hi
      have ht : i < (pv :: vs).length := (List.getElem?_eq_some_iff.1 hi).1
      unfold tmps0
      rw [Array.getD_eq_getD_getElem?, Array.getElem?_append_left (by simpa using ht)]
      simp [hi]
    have hinv : Inv P fn.ntmps F ⟨G1, fun _ _ => b, fun _ => (undef, 0), 0⟩ { slots := (0, .ptr 0 0 em.τ []) :: argSlots em.ps xs 1, heap := [(0, .box 0 false (.dat em.τ y))] } { tmps := tmps0 fn.ntmps (pv :: vs), defers := [] } w := by
      subst hF
      refine ⟨fun i => ?_, hsize, Marks.nil _ _ _, ⟨fun id n' fz c hl => ?_, fun T n' hl => ?_, fun id n' fz c id' n'' fz' c' h1 h2 hne => ?_, fun T n' T' n'' h1 => ?_⟩, Kp.refl _ _ _, hlv1, Nat.le_refl _, Nat.le_refl _, fun l o h => (by cases h), fun i _ => rfl, rfl, fun _ h => h, fun l h => (by cases h), hlv1⟩
      · rw [look_lookO, lookO_cons]
        by_cases e : 0 = i
        · rw [if_pos e]
          subst e
          rw [htmp 0 pv rfl, hpv]
          exact SRel.of0 ⟨0, false, _, by rw [lookO_cons, if_pos rfl], Nat.le_refl _, trivial, rfl⟩
        · rw [if_neg e]
          cases hl : lookO (argSlots em.ps xs 1) i with
          | none => exact SRel.of0 (s := .poison) trivial
          | some u =>
            obtain ⟨v, h1, h2, h3⟩ := argSlots_rel (P := P) (w := w) (H := [(0, .box 0 false (.dat em.τ y))]) (g := ⟨G1, fun _ _ => b, fun _ => (undef, 0), 0⟩) rfl em.ps xs vs (hxs.adv hadv1) 1 i u hl
            rw [htmp i v (by rw [show i = (i - 1) + 1 by omega, List.getElem?_cons_succ]; exact h2)]
            exact SRel.of0 h3
      · rw [lookO_cons] at hl
        by_cases e : 0 = id
        · rw [if_pos e] at hl
          cases hl
          exact ⟨cs, et, hblk, Rep.adv hadv1 _ _ _ hrep, by rw [if_neg (by simp)]; exact hG1b⟩
        · rw [if_neg e] at hl; cases hl
      · rw [lookO_cons] at hl
        by_cases e : 0 = T
        · rw [if_pos e] at hl; cases hl
        · rw [if_neg e] at hl; cases hl
      · rw [lookO_cons] at h1 h2
        by_cases e : 0 = id
        · by_cases e' : 0 = id'
          · exact absurd (e.symm.trans e') hne
          · rw [if_neg e'] at h2; cases h2
        · rw [if_neg e] at h1; cases h1
      · rw [lookO_cons] at h1
        by_cases e : 0 = T
        · rw [if_pos e] at h1; cases h1
        · rw [if_neg e] at h1; cases h1
    have hC' : CtxOk P { C with ntmps := fn.ntmps, pins := [0] } := ⟨hC.types, hC.fts, hC.pts, hC.fns, hC.cls, hC.sqs, hC.ems, hC.mixed, hC.ons, hC.des⟩
    have hFm : F.m = t + 1 := by rw [hF]; rfl
    have hE : EmOk P F t (EmR.no (em.τ.den × rdens em.rs)) (fun r' _ _ => r' = (y', r)) := EmOk.none hFm _
    have hargs : #[Value.pointer (some ⟨b, 0, none⟩)] ++ vs.toArray = (pv :: vs).toArray := by rw [hpv]; simp
    rw [hargs]
    have hrd : F.rd = none := by rw [hF]; rfl
    have key : code.wpIn (wr F.rd) 0 P (bodyPostM (wr none) 0 P fn (fun e w' => ∃ us G' cs' et', e = .returned (tupVal us) ∧ w'.heap[b]? = some (.cells cs' et' (0, 0)) ∧ G' b = .mine m ∧ Rep G' w' em.τ y' cs'.toList ∧ FwdX b G w G' w' ∧ Lv t G' w' ∧ ResPs P G' w' m w.heap.size em.rs r us)) { tmps := tmps0 fn.ntmps (pv :: vs), defers := [] } w := by
      refine exec_sound code hC' (F := F) (by rw [hF]; rfl) hE (r := (y', r)) hinv rfl hrun fun e s' g' a' w' r' hi hr' hk => ?_
      subst hr'
      have fin : finM { C with ntmps := fn.ntmps, pins := [0] } fn.results.toList em.τ em.rs s' = some (y', r) → LeavesInM (wr none) 0 P fn a'.tmps (fun e w' => ∃ us G' cs' et', e = .returned (tupVal us) ∧ w'.heap[b]? = some (.cells cs' et' (0, 0)) ∧ G' b = .mine m ∧ Rep G' w' em.τ y' cs'.toList ∧
            FwdX b G w G' w' ∧ Lv t G' w' ∧ ResPs P G' w' m w.heap.size em.rs r us) a'.defers .returning w' := by
        intro hk
        unfold finM at hk
        split at hk
        · rename_i root hsl
          split at hk
          · rename_i σ z hbox
            split at hk
            · rename_i z' r' hz hres
              cases hk
              cases castD_some hz
              obtain ⟨Ds, hds, _⟩ := hi.defers
              refine leaves_marks hE (by rw [hF]; rfl) hrd (r := (y', r)) Ds hds hi rfl fun w2 hi2 _ => ?_
              obtain ⟨us, h1, h2⟩ := asRs_rel (C := { C with ntmps := fn.ntmps, pins := [0] }) hC.types hi2 em.rs (fun e => by rw [hfresh] at e; cases e) fn.results.toList r hres
              obtain ⟨kc, hbox', hunf⟩ := boxD_some hbox
              obtain ⟨cs', et', k1, k2, k3⟩ := (hi2.heap.box 0 0 false _ (box_spec hbox')).con (unfat_conC hunf)
              have k2 := k2.unfat hunf
              rw [if_neg (by simp)] at k3
              -- the variable is the one that was handed in
              have hι : g'.ι 0 0 = b := by
                have hs := hi2.slots 0
                rw [hsl] at hs
                obtain ⟨_, _, _, _, _, _, e1⟩ := hs
                have hp := hi2.pin 0 (by rw [hF]; exact List.mem_singleton.2 rfl)
                have hp0 : F.pv 0 = pv := by rw [hF]; exact htmp 0 pv rfl
                have e1 : a'.tmps.getD 0 undef = .pointer (some ⟨g'.ι 0 0, 0, none⟩) := e1
                have hp : a'.tmps.getD 0 undef = F.pv 0 := hp
                rw [hp, hp0, hpv] at e1
                cases e1; rfl
              rw [hι] at k1 k3
              rw [hFm] at k3
              have hstp : Kp (Own.offs (t + 1)) G1 w g'.G w2 := by have := hi2.stp; rw [hF] at this; exact this
              have hsame : ∀ k, k < w.heap.size → k ≠ b → w2.heap[k]? = w.heap[k]? ∧ g'.G k = G k := fun k hk hne => by
                obtain ⟨q1, q2⟩ := hstp.same k hk (by rw [hG1n k hne]; exact Own.upto_offs (Nat.lt_succ_self t) _ (hlv k hk))
                exact ⟨q1, q2.trans (hG1n k hne)⟩
              obtain ⟨G2, hG2⟩ : ∃ G2 : Gh, G2 = fun k => if k = b then .mine m else (g'.G k).relev m t := ⟨_, rfl⟩
              have hG2b : G2 b = .mine m := by rw [hG2]; simp
              have hG2n : ∀ k, k ≠ b → G2 k = (g'.G k).relev m t := fun k hk => by rw [hG2]; simp [hk]
              have hadv2 : Adv g'.G w2 G2 w2 := ⟨fun k o v hc hs => ⟨hc, by
                by_cases e : k = b
                · unfold Gh.st at hs
                  rw [e, k3] at hs
                  exact hs.elim
                · have := ((Gh.relev_adv m t g'.G w2).cell k o v hc hs).2
                  unfold Gh.st Gh.relev at *
                  rw [hG2n k e]; exact this⟩⟩
              refine ⟨_, run_results h1, us, G2, cs', et', rfl, k1, hG2b, Rep.adv hadv2 _ _ _ k2, ⟨hstp.os, hstp.tape, hstp.output, hstp.size, fun k hk hne => ?_, (hadv1.trans hstp.adv).trans hadv2⟩, fun k hk => ?_, resPs_adv hadv2 em.rs r us hfresh h2⟩
              · obtain ⟨q1, q2⟩ := hsame k hk hne
                exact ⟨q1, by rw [hG2n k hne, q2]; exact Own.relev_of (hlv k hk)⟩
              · by_cases e : k = b
                · rw [e, hG2b]; exact hm
                · rw [hG2n k e]; exact Own.relev_upto hm _
            · cases hk
          · cases hk
        · cases hk
      cases e with
      | normal => exact fin hk
      | ret => exact fin hk
      | exit id => cases hk
    rw [hrd] at key
    exact calls_of_wr (n := 0) (callsIn_of_wp_marks hf hb trivial key)

theorem soundM_none {P : Program} {f : FuncId} {fn : Func} (hf : P.funcs[f]? = some fn) (hname : (fn.name == "runtime.NumGoroutine") = false) (hbody : fn.body.isSome = true) {em : Em} (h : ∀ y x, em.g y x = none) : SoundM P f em :=
  ⟨⟨fn, hf, hbody, hname⟩, fun _ _ _ _ _ _ _ _ _ y _ _ _ xs _ _ y' r hr => by rw [h] at hr; cases hr⟩
theorem soundE_none {P : Program} {f : FuncId} {fn : Func} (hf : P.funcs[f]? = some fn) (hname : (fn.name == "runtime.NumGoroutine") = false) (hbody : fn.body.isSome = true) {en : Ent} (h : ∀ x, en.g x = none) : SoundE P f en :=
  ⟨⟨fn, hf, hbody, hname⟩, fun _ _ _ _ _ _ xs _ _ r hr => by rw [h] at hr; cases hr⟩
/-- The right to a result's room may be let go. -/
theorem soundE_weak {P : Program} {f : FuncId} {ps : List PTy} {e : Ty} {g : pdens ps → Option (List e.den)} (h : SoundE P f ⟨ps, [.fresh e], g⟩) : SoundE P f ⟨ps, [.data (.slc e)], g⟩ :=
  ⟨h.1, fun m t G w hm hlv xs vs hxs r hr => (h.2 m t G w hm hlv xs vs hxs r hr).mono fun _ _ ⟨us, G', h1, h2, h3, h4⟩ => ⟨us, G', h1, h2, h3, by
    obtain ⟨v, h5, h6, _⟩ := h4
    exact ⟨v, h5, h6⟩⟩⟩
theorem soundE_weak2 {P : Program} {f : FuncId} {ps : List PTy} {e τ : Ty} {g : pdens ps → Option (List e.den × τ.den)} (h : SoundE P f ⟨ps, [.fresh e, .data τ], g⟩) : SoundE P f ⟨ps, [.data (.slc e), .data τ], g⟩ :=
  ⟨h.1, fun m t G w hm hlv xs vs hxs r hr => (h.2 m t G w hm hlv xs vs hxs r hr).mono fun _ _ ⟨us, G', h1, h2, h3, h4⟩ => ⟨us, G', h1, h2, h3, by
    obtain ⟨v, vs', h5, ⟨h6, _⟩, h7⟩ := h4
    exact ⟨v, vs', h5, h6, h7⟩⟩⟩
end Go.Vi

/- The contract of a function that keeps the slice that it is given. -/
namespace Go.Vi
open Go.RowKit (Below)


theorem soundD_of_run {P : Program} {C : Ctx} (hC : CtxOk P C) {f : FuncId} {fn : Func} (hf : P.funcs[f]? = some fn) (hname : (fn.name == "runtime.NumGoroutine") = false) (hbody : fn.body.isSome = true) {de : De} {n : Nat}
    (h : ∀ y x q, de.g y x = some q → runD C n fn de.e de.ps de.rs y x = some q) : SoundD P f de := by
  obtain ⟨code, hb⟩ := Option.isSome_iff_exists.1 hbody
  refine ⟨⟨fn, hf, hbody, hname⟩, fun m t G w hm hlv b y v hown xs vs hxs r hr => ?_⟩
  have hrun := h y xs _ hr
  unfold runD at hrun
  rw [hb] at hrun
  simp only at hrun
  cases hle : Nat.ble (1 + de.ps.length) fn.ntmps && !de.rs.any RTy.held with
  | false => rw [hle] at hrun; cases hrun
  | true =>
    rw [hle, cond_true] at hrun
    simp only [Bool.and_eq_true, Bool.not_eq_true'] at hle
    obtain ⟨hle, hheld⟩ := hle
    have hle := Nat.le_of_ble_eq_true hle
    have hlen := argsP_len de.ps xs vs hxs
    obtain ⟨ao, Cc, q1, q2, q3⟩ := hown
    have hcap : capOf v = Cc := by rw [q1]; rfl
    -- the block becomes the callee's
    obtain ⟨G1, hG1b, hG1n, hG1z⟩ : ∃ G1 : Gh, (Cc ≠ 0 → G1 b = .mine (t + 1)) ∧ (∀ k, k ≠ b → G1 k = G k) ∧ (Cc = 0 → G1 = G) := by
      by_cases h0 : Cc = 0
      · exact ⟨G, fun h => absurd h0 h, fun _ _ => rfl, fun _ => rfl⟩
      · exact ⟨fun k => if k = b then .mine (t + 1) else G k, fun _ => if_pos rfl, fun k hk => if_neg hk, fun h => absurd h h0⟩
    have hGb : Cc ≠ 0 → G b = .mine m ∧ ∃ cs et, w.heap[b]? = some (.cells cs et (0, 0)) := fun h0 => by
      rcases q3 with q3 | ⟨_, _, cs, et, css, rest, r1, _, _, _, r5⟩
      · exact absurd q3 h0
      · exact ⟨r5, cs, et, r1⟩
    have hadv1 : Adv G w G1 w := ⟨fun k o v hc hs => ⟨hc, by
      by_cases e : k = b
      · by_cases h0 : Cc = 0
        · rw [hG1z h0]; exact hs
        · unfold Gh.st at hs
          rw [e, (hGb h0).1] at hs
          exact hs.elim
      · unfold Gh.st at *
        rw [hG1n k e]; exact hs⟩⟩
    have hlv1 : Lv (t + 1) G1 w := fun k hk => by
      by_cases e : k = b
      · by_cases h0 : Cc = 0
        · rw [hG1z h0]; exact Own.upto_mono (Nat.le_succ _) (hlv k hk)
        · rw [e, hG1b h0]; exact Nat.le_refl _
      · rw [hG1n k e]; exact Own.upto_mono (Nat.le_succ _) (hlv k hk)
    obtain ⟨F, hF⟩ : ∃ F : Fr, F = { frame0 fn.ntmps C.pins (v :: vs) t (Own.offs (t + 1)) 0 G1 w with B := 0 } := ⟨_, rfl⟩
    have hsize : (tmps0 fn.ntmps (v :: vs)).size = fn.ntmps := by simp [tmps0]; omega
    have htmp : ∀ i u, (v :: vs)[i]? = some u → (tmps0 fn.ntmps (v :: vs)).getD i undef = u := by
      intro i u hi
      have ht : i < (v :: vs).length := (List.getElem?_eq_some_iff.1 hi).1
      unfold tmps0
      rw [Array.getD_eq_getD_getElem?, Array.getElem?_append_left (by simpa using ht)]
      simp [hi]
    have hown1 : OwnRel G1 w (t + 1) 0 false b de.e y v := by
      refine ⟨ao, Cc, q1, q2, ?_⟩
      by_cases h0 : Cc = 0
      · exact .inl h0
      · rcases q3 with q3 | ⟨r0, r00, cs, et, css, rest, r1, r2, r3, r4, r5⟩
        · exact absurd q3 h0
        · exact .inr ⟨r0, r00, cs, et, css, rest, r1, r2, r3.mono fun x y hxy => Rep.adv hadv1 de.e x y hxy, r4, hG1b h0⟩
    have hinv : Inv P fn.ntmps F ⟨G1, fun _ _ => b, fun _ => (v, 0), 0⟩ { slots := (0, .vec 0 0 de.e) :: argSlots de.ps xs 1, heap := [(0, .box 0 false (.row de.e y))] } { tmps := tmps0 fn.ntmps (v :: vs), defers := [] } w := by
      subst hF
      refine ⟨fun i => ?_, hsize, Marks.nil _ _ _, ⟨fun id n' fz c hl => ?_, fun T n' hl => ?_, fun id n' fz c id' n'' fz' c' h1 h2 hne => ?_, fun T n' T' n'' h1 => ?_⟩, Kp.refl _ _ _, hlv1, Nat.le_refl _, Nat.zero_le _, fun l o h => (by cases h), fun i _ => rfl, rfl, fun _ h => h, fun l h => (by cases h), hlv1⟩
      · rw [look_lookO, lookO_cons]
        by_cases e : 0 = i
        · rw [if_pos e]
          subst e
          rw [htmp 0 v rfl]
          exact SRel.of0 (s := .vec 0 0 de.e) ⟨0, false, _, by rw [lookO_cons, if_pos rfl], Nat.le_refl _, fun _ => ⟨⟨_, rfl⟩, rfl⟩⟩
        · rw [if_neg e]
          cases hl : lookO (argSlots de.ps xs 1) i with
          | none => exact SRel.of0 (s := .poison) trivial
          | some u =>
            obtain ⟨v', h1, h2, h3⟩ := argSlots_rel (P := P) (w := w) (H := [(0, .box 0 false (.row de.e y))]) (g := ⟨G1, fun _ _ => b, fun _ => (v, 0), 0⟩) rfl de.ps xs vs (hxs.adv hadv1) 1 i u hl
            rw [htmp i v' (by rw [show i = (i - 1) + 1 by omega, List.getElem?_cons_succ]; exact h2)]
            exact SRel.of0 h3
      · rw [lookO_cons] at hl
        by_cases e : 0 = id
        · rw [if_pos e] at hl
          cases hl
          exact hown1
        · rw [if_neg e] at hl; cases hl
      · rw [lookO_cons] at hl
        by_cases e : 0 = T
        · rw [if_pos e] at hl; cases hl
        · rw [if_neg e] at hl; cases hl
      · rw [lookO_cons] at h1 h2
        by_cases e : 0 = id
        · by_cases e' : 0 = id'
          · exact absurd (e.symm.trans e') hne
          · rw [if_neg e'] at h2; cases h2
        · rw [if_neg e] at h1; cases h1
      · rw [lookO_cons] at h1
        by_cases e : 0 = T
        · rw [if_pos e] at h1; cases h1
        · rw [if_neg e] at h1; cases h1
    have hC' := hC.ntmps fn.ntmps
    have hFm : F.m = t + 1 := by rw [hF]; rfl
    have hE : EmOk P F t (EmR.no (rdens de.rs)) (fun r' _ _ => r' = r) := EmOk.none hFm _
    have hargs : #[v] ++ vs.toArray = (v :: vs).toArray := by simp
    rw [hargs]
    have hrd : F.rd = none := by rw [hF]; rfl
    have key : code.wpIn (wr F.rd) 0 P (bodyPostM (wr none) 0 P fn (fun e w' => ∃ us G', e = .returned (tupVal us) ∧ FwdR v b G w G' w' ∧ Lv t G' w' ∧ ResPs P G' w' m w.heap.size de.rs r us)) { tmps := tmps0 fn.ntmps (v :: vs), defers := [] } w := by
      refine exec_sound code hC' (F := F) (by rw [hF]; rfl) hE (r := r) hinv rfl hrun fun e s' g' a' w' r' hi hr' hk => ?_
      subst hr'
      have fin : endRs s' de.rs (fn.results.toList.map (resSlot { C with ntmps := fn.ntmps } s')) = some r' → LeavesInM (wr none) 0 P fn a'.tmps (fun e w' => ∃ us G', e = .returned (tupVal us) ∧ FwdR v b G w G' w' ∧ Lv t G' w' ∧ ResPs P G' w' m w.heap.size de.rs r' us) a'.defers .returning w' := by
        intro hk
        obtain ⟨Ds, hds, _⟩ := hi.defers
        refine leaves_marks hE (by rw [hF]; rfl) hrd (r := r') Ds hds hi rfl fun w2 hi2 _ => ?_
        obtain ⟨us, g3, s3, h1, hi3, h2⟩ := endRs_rel (C := { C with ntmps := fn.ntmps }) hC.types hi2 de.rs (fun e => by rw [hheld] at e; cases e) fn.results.toList r' hk
        have hstp : Kp (Own.offs (t + 1)) G1 w g3.G w2 := by have := hi3.stp; rw [hF] at this; exact this
        have hsame : ∀ k, k < w.heap.size → (k ≠ b ∨ capOf v = 0) → w2.heap[k]? = w.heap[k]? ∧ g3.G k = G k := fun k hk hne => by
          have hGk : G1 k = G k := by
            rcases hne with hne | h0
            · exact hG1n k hne
            · rw [hG1z (by rw [← hcap]; exact h0)]
          obtain ⟨p1, p2⟩ := hstp.same k hk (by rw [hGk]; exact Own.upto_offs (Nat.lt_succ_self t) _ (hlv k hk))
          exact ⟨p1, p2.trans hGk⟩
        have hadv2 := Gh.relev_adv m t g3.G w2
        have hG2 : ∀ k, k < w.heap.size → (k ≠ b ∨ capOf v = 0) → w2.heap[k]? = w.heap[k]? ∧ (g3.G.relev m t) k = G k := fun k hk hne => by
          obtain ⟨p1, p2⟩ := hsame k hk hne
          exact ⟨p1, by unfold Gh.relev; rw [p2]; exact Own.relev_of (hlv k hk)⟩
        refine ⟨_, run_results h1, us, g3.G.relev m t, rfl, ⟨hstp.os, hstp.tape, hstp.output, hstp.size, hG2, (hadv1.trans hstp.adv).trans hadv2, fun k ob h5 h6 => ?_⟩, fun k hk => ?_, resPs_adv hadv2 de.rs r' us hheld h2⟩
        · have hk := (Array.getElem?_eq_some_iff.1 h5).1
          obtain ⟨p1, p2⟩ := hG2 k hk (by
            by_cases h0 : Cc = 0
            · exact .inr (by rw [hcap]; exact h0)
            · refine .inl fun e => ?_
              obtain ⟨_, cs, et, hcs⟩ := hGb h0
              rw [e, hcs] at h5
              cases h5; cases h6)
          exact ⟨p1.trans h5, p2⟩
        · exact Own.relev_upto hm _
      cases e with
      | normal => exact fin hk
      | ret => exact fin hk
      | exit id => cases hk
    rw [hrd] at key
    exact calls_of_wr (n := 0) (callsIn_of_wp_marks hf hb trivial key)
end Go.Vi
