/- A loop's head. -/
import Derived.Test.YtagpigbfbhdoiaaViV
namespace Go.Vi
open Go.RowKit (Below)

/-! ### what is kept -/
theorem keepTag_tip {s : St} {T' T n : Nat} {u : S} {e : Ty} {x : List e.den} (h : keepTag s T' u = .lst (.tip T n) e x) : T = T' ∧ n = 0 := by
  unfold keepTag at h
  split at h
  · cases h; exact ⟨rfl, rfl⟩
  · split at h
    · rename_i m _
      cases hb : Nat.beq m _ with
      | true => rw [hb] at h; cases h; exact ⟨rfl, rfl⟩
      | false => rw [hb] at h; cases h
    · cases h
  · split at h <;> cases h
  · cases h
  · rename_i v hv1 hv2 hv3 hv4
    exfalso
    exact hv2 _ _ _ _ h
theorem isTip_spec {u : S} (h : isTip u = true) : ∃ T n e x, u = .lst (.tip T n) e x := by
  unfold isTip at h
  split at h
  · exact ⟨_, _, _, _, rfl⟩
  · cases h

theorem tokRows_some (s : St) : ∀ (l : List (Bool × Nat)) (T : Nat) (hc : HC), lookO (tokRows s l) T = some hc → ∃ p ∈ l, T = ptok p ∧ hc = .tok 0 ∧ isTip (keepTag s (ptok p) (plc s p)) = true
  | [], _, _, h => by cases h
  | p :: l, T, hc, h => by
    simp only [tokRows] at h
    have rec' : lookO (tokRows s l) T = some hc → _ := fun h => tokRows_some s l T hc h
    cases ht : isTip (keepTag s (ptok p) (plc s p)) with
    | true =>
      rw [ht, cond_true, lookO_cons] at h
      by_cases e : ptok p = T
      · rw [if_pos e] at h
        cases h
        exact ⟨p, by simp, e.symm, rfl, ht⟩
      · rw [if_neg e] at h
        obtain ⟨q, q1, q2⟩ := rec' h
        exact ⟨q, by simp [q1], q2⟩
    | false =>
      rw [ht, cond_false] at h
      obtain ⟨q, q1, q2⟩ := rec' h
      exact ⟨q, by simp [q1], q2⟩
theorem tokRows_mem (s : St) : ∀ (l : List (Bool × Nat)) (p : Bool × Nat), p ∈ l → isTip (keepTag s (ptok p) (plc s p)) = true → lookO (tokRows s l) (ptok p) = some (.tok 0)
  | q :: l, p, hp, ht => by
    simp only [tokRows]
    rcases List.mem_cons.1 hp with rfl | hp'
    · rw [ht, cond_true, lookO_cons, if_pos rfl]
    · cases hq : isTip (keepTag s (ptok q) (plc s q)) with
      | true =>
        rw [cond_true, lookO_cons]
        by_cases e : ptok q = ptok p
        · rw [if_pos e]
        · rw [if_neg e]; exact tokRows_mem s l p hp' ht
      | false => rw [cond_false]; exact tokRows_mem s l p hp' ht
  | [], _, hp, _ => by cases hp

theorem apartAll_spec (s : St) : ∀ (l : List (Bool × Nat)) (used : List Nat), apartAll s l used = true → (∀ p ∈ l, ∀ T ∈ tokOf s (plc s p), T ∉ used) ∧ ∀ p1 ∈ l, ∀ p2 ∈ l, p1 ≠ p2 → ∀ T ∈ tokOf s (plc s p1), T ∉ tokOf s (plc s p2)
  | [], _, _ => ⟨fun _ h => (by cases h), fun _ h => (by cases h)⟩
  | p :: l, used, h => by
    simp only [apartAll, Bool.and_eq_true, Bool.not_eq_true'] at h
    obtain ⟨h1, h2⟩ := apartAll_spec s l _ h.2
    refine ⟨fun q hq T hT => ?_, fun p1 hp1 p2 hp2 hne T hT => ?_⟩
    · rcases List.mem_cons.1 hq with rfl | hq
      · exact meet_spec h.1 T hT
      · exact fun hu => h1 q hq T hT (List.mem_append_right _ hu)
    · rcases List.mem_cons.1 hp1 with e1 | hp1'
      · rcases List.mem_cons.1 hp2 with e2 | hp2'
        · exact absurd (e1.trans e2.symm) hne
        · subst e1
          exact fun hT2 => h1 p2 hp2' T hT2 (List.mem_append_left _ hT)
      · rcases List.mem_cons.1 hp2 with e2 | hp2'
        · subst e2
          exact fun hT2 => h1 p1 hp1' T hT (List.mem_append_left _ hT2)
        · exact h2 p1 hp1' p2 hp2' hne T hT

theorem keepBoxes_spec (s : St) : ∀ (l : List Nat) (h : List (Nat × HC)), keepBoxes s l = some h →
    (∀ id hc, lookO h id = some hc → id ∈ l ∧ ∃ n fz c, hc = .box 0 fz (keepTag s (btok id) c) ∧ lookO s.heap id = some (.box n fz c) ∧ boxable c = true) ∧ ∀ id ∈ l, ∃ hc, lookO h id = some hc
  | [], h, hk => by cases hk; exact ⟨fun id hc hv => (by cases hv), fun id hid => (by cases hid)⟩
  | k :: l, h, hk => by
    simp only [keepBoxes] at hk
    split at hk
    · rename_i n fz c hl
      cases hb : boxable c with
      | false => rw [hb] at hk; cases hk
      | true =>
        rw [hb, cond_true, Option.map_eq_some_iff] at hk
        obtain ⟨h', hrec, rfl⟩ := hk
        obtain ⟨q1, q2⟩ := keepBoxes_spec s l h' hrec
        refine ⟨fun id hc hv => ?_, fun id hid => ?_⟩
        · rw [lookO_cons] at hv
          by_cases e : k = id
          · rw [if_pos e] at hv
            cases hv
            subst e
            exact ⟨by simp, n, fz, c, rfl, hl, hb⟩
          · rw [if_neg e] at hv
            obtain ⟨r1, r2⟩ := q1 id hc hv
            exact ⟨by simp [r1], r2⟩
        · rw [lookO_cons]
          by_cases e : k = id
          · rw [if_pos e]; exact ⟨_, rfl⟩
          · rw [if_neg e]
            rcases List.mem_cons.1 hid with rfl | hid
            · exact absurd rfl e
            · exact q2 id hid
    · cases hk

theorem lookO_keys {α : Type} (f : Nat → α) : ∀ (l : List Nat) (t : Nat) (v : α), lookO (l.map fun k => (k, f k)) t = some v → t ∈ l ∧ v = f t
  | [], _, _, h => by cases h
  | k :: l, t, v, h => by
    rw [List.map_cons, lookO_cons] at h
    by_cases e : k = t
    · rw [if_pos e] at h
      cases h
      exact ⟨by simp [e], by rw [e]⟩
    · rw [if_neg e] at h
      obtain ⟨p, q⟩ := lookO_keys f l t v h
      exact ⟨by simp [p], q⟩

theorem mem_places {ks : List Nat × List Nat} {p : Bool × Nat} : p ∈ places ks ↔ (p.1 = true ∧ p.2 ∈ ks.1) ∨ (p.1 = false ∧ p.2 ∈ ks.2) := by
  obtain ⟨b, k⟩ := p
  unfold places
  cases b <;> simp

/-- The place of a right's name. -/
def pof (T : Nat) : Bool × Nat := if T < 200000 then (true, T - 100000) else (false, T - 200000)
theorem ptok_true (k : Nat) : ptok (true, k) = k + 100000 := rfl
theorem ptok_false (k : Nat) : ptok (false, k) = k + 200000 := rfl
theorem pof_true {k : Nat} (h : k < 100000) : pof (ptok (true, k)) = (true, k) := by
  rw [ptok_true]; unfold pof
  rw [if_pos (by omega), Nat.add_sub_cancel]
theorem pof_false (k : Nat) : pof (ptok (false, k)) = (false, k) := by
  rw [ptok_false]; unfold pof
  rw [if_neg (by omega), Nat.add_sub_cancel]
theorem ptok_ge (p : Bool × Nat) : 100000 ≤ ptok p := by
  obtain ⟨b, k⟩ := p
  cases b
  · rw [ptok_false]; omega
  · rw [ptok_true]; omega

/-- At a loop's head. -/
theorem Inv.keep {P : Program} {N : Nat} {F : Fr} {g : Gs} {s s' : St} {a : Act} {w : World} (hinv : Inv P N F g s a w) {ks : List Nat × List Nat} (h : s.keep ks = some s') : ∃ g', g'.G = g.G ∧ Inv P N F g' s' a w := by
  unfold St.keep at h
  split at h
  · rename_i kh hkh
    simp only at h
    generalize hka : (ks.1.map fun k => (k, keepTag s (tokId k) (look .poison s.slots k))) = ka at h
    cases hb : apartAll s (places ks) [] && ((ka.all (ptrIn ks.2) && kh.all (boxPtrIn ks.2)) && ((ks.1.all (fun k => Nat.blt k 100000) && ks.2.all (fun k => Nat.blt k 100000)) && (nodup ks.1 && nodup ks.2))) with
    | false => rw [hb] at h; cases h
    | true =>
      rw [hb, cond_true] at h
      cases h
      simp only [Bool.and_eq_true, List.all_eq_true] at hb
      obtain ⟨hap, ⟨hptr, hbptr⟩, ⟨hids1, hids⟩, _⟩ := hb
      have hidlt1 : ∀ id ∈ ks.1, id < 100000 := fun id hid => by simpa using hids1 id hid
      have hidlt : ∀ id ∈ ks.2, id < 100000 := fun id hid => by simpa using hids id hid
      have s1 : ∀ t v, lookO ka t = some v → t ∈ ks.1 ∧ v = keepTag s (tokId t) (look .poison s.slots t) := fun t v hv => by
        rw [← hka] at hv
        exact lookO_keys (fun k => keepTag s (tokId k) (look .poison s.slots k)) ks.1 t v hv
      obtain ⟨t1, t2⟩ := keepBoxes_spec s ks.2 kh hkh
      obtain ⟨_, s5⟩ := apartAll_spec s _ _ hap
      generalize hkb : tokRows s (places ks) = kb
      have b1 := tokRows_some s (places ks)
      have b2 := tokRows_mem s (places ks)
      rw [hkb] at b1 b2
      have hpof : ∀ p ∈ places ks, pof (ptok p) = p := by
        intro p hp
        obtain ⟨b, k⟩ := p
        rcases mem_places.1 hp with ⟨q1, q2⟩ | ⟨q1, q2⟩
        · have q1 : b = true := q1
          subst q1
          exact pof_true (hidlt1 k q2)
        · have q1 : b = false := q1
          subst q1
          exact pof_false k
      -- the rows of the new heap
      have lookBox : ∀ id, id < 100000 → lookO (kb ++ kh) id = lookO kh id := by
        intro id hid
        rw [lookO_append]
        cases hl : lookO kb id with
        | none => rfl
        | some hc =>
          obtain ⟨p, hp, h2, _⟩ := b1 id hc hl
          have := ptok_ge p
          omega
      have lookTok : ∀ p ∈ places ks, isTip (keepTag s (ptok p) (plc s p)) = true → lookO (kb ++ kh) (ptok p) = some (.tok 0) := by
        intro p hp ht
        rw [lookO_append, b2 p hp ht]; rfl
      have boxIn : ∀ id n fz c, lookO (kb ++ kh) id = some (.box n fz c) → id ∈ ks.2 ∧ n = 0 ∧ ∃ m c0, lookO s.heap id = some (.box m fz c0) ∧ boxable c0 = true ∧ c = keepTag s (btok id) c0 := by
        intro id n fz c hl
        rw [lookO_append] at hl
        cases hlb : lookO kb id with
        | some hc =>
          obtain ⟨k, _, _, h3, _⟩ := b1 id hc hlb
          rw [hlb, h3] at hl
          cases hl
        | none =>
          rw [hlb, Option.none_or] at hl
          obtain ⟨q1, m, fz', c0, q2, q3, q4⟩ := t1 id _ hl
          cases q2
          exact ⟨q1, rfl, m, c0, q3, q4, rfl⟩
      have tokIn : ∀ T n, lookO (kb ++ kh) T = some (.tok n) → ∃ p ∈ places ks, T = ptok p ∧ n = 0 ∧ isTip (keepTag s (ptok p) (plc s p)) = true := by
        intro T n hl
        rw [lookO_append] at hl
        cases hlb : lookO kb T with
        | some hc =>
          obtain ⟨p, h1, h2, h3, h4⟩ := b1 T hc hlb
          rw [hlb, h3] at hl
          cases hl
          exact ⟨p, h1, h2, rfl, h4⟩
        | none =>
          rw [hlb, Option.none_or] at hl
          obtain ⟨q1, m, fz', c0, q2, q3, q4⟩ := t1 T _ hl
          cases q2
      -- the number of a variable, and the value at a place
      let cur : Nat → Nat := fun id => match lookO s.heap id with | some (.box m _ _) => m | _ => 0
      have hcur : ∀ id m fz c, lookO s.heap id = some (.box m fz c) → cur id = m := fun id m fz c hl => by simp [cur, hl]
      let esz : S → Nat := fun v => match v with | .lst _ e _ => e.size | _ => 0
      let plv : Bool × Nat → Value := fun p => match p with
        | (true, k) => a.tmps.getD k undef
        | (false, k) => match w.heap[g.ι k (cur k)]? with
          | some (.cells cs _ _) => cs.toList.headD undef
          | _ => undef
      let g' : Gs := ⟨g.G, fun id _ => g.ι id (cur id), fun T => (plv (pof T), esz (plc s (pof T))), g.yl⟩
      have hov : ∀ p ∈ places ks, g'.ov (ptok p) = (plv p, esz (plc s p)) := fun p hp => by simp only [g']; rw [hpof p hp]
      -- what lies at a place, where it is a list
      have hplace : ∀ p ∈ places ks, ∀ k e x, plc s p = .lst k e x → SRel0 P s.heap g w (plc s p) (plv p) := by
        intro p hp k e x hpl
        obtain ⟨b, t⟩ := p
        cases b with
        | true =>
          have := hinv.slots t
          rw [show plc s (true, t) = look .poison s.slots t from rfl] at hpl ⊢
          rw [hpl] at this ⊢
          exact this
        | false =>
          simp only [plc] at hpl ⊢
          split at hpl
          · rename_i m fz c hl
            obtain ⟨cs, et, q1, q2, _⟩ := hinv.heap.box t m fz c hl
            rw [hpl] at q2
            obtain ⟨v, q3, q4⟩ := q2
            have hv : plv (false, t) = v := by
              simp only [plv, hcur t m fz c hl, q1, q3, List.headD_cons]
            rw [hv, hpl]
            exact q4
          · cases hpl
      -- a value that is kept
      have tagRel : ∀ p ∈ places ks, ∀ v, (∀ k e x, plc s p = .lst k e x → v = plv p) → SRel P s.heap g w (plc s p) v → (∀ id n root π, keepTag s (ptok p) (plc s p) = .ptr id n root π → id ∈ ks.2) → SRel P (kb ++ kh) g' w (keepTag s (ptok p) (plc s p)) v := by
        intro p hp v hv hold hid
        have htok := lookTok p hp
        have hovp := hov p hp
        generalize hu : plc s p = u at *
        unfold keepTag at htok hid ⊢
        split
        · rename_i e x
          obtain ⟨hr, ao, n, hn⟩ := hold
          exact SRel.of0 ⟨hr, 0, htok rfl, Nat.le_refl _, fun _ => by rw [hovp, hv _ _ _ rfl]⟩
        · rename_i T n e x
          obtain ⟨hr, m, hm, hle, hovT⟩ := hold
          simp only [hm] at htok ⊢
          cases hb : Nat.beq m n with
          | true =>
            rw [hb] at htok
            exact SRel.of0 ⟨hr, 0, htok rfl, Nat.le_refl _, fun _ => by rw [hovp, hv _ _ _ rfl]⟩
          | false => exact SRel.of0 hr
        · rename_i id n root π
          split
          · rename_i q hbox
            obtain ⟨m, fz, c, h1, h2, h3, h4⟩ := hold
            obtain ⟨fz', c'⟩ := q
            have hb2 := box_spec hbox
            have hid := hid id 0 root π (by simp only [hbox])
            obtain ⟨hc, hhc⟩ := t2 id hid
            obtain ⟨_, m', fz'', c0, q2, q3, q4⟩ := t1 id hc hhc
            subst q2
            refine SRel.of0 ⟨0, fz'', _, by rw [lookBox id (hidlt id hid)]; exact hhc, Nat.le_refl _, h3, ?_⟩
            rw [h4]
            have : g'.ι id 0 = g.ι id n := by simp only [g']; rw [hcur id n fz' c' hb2]
            rw [this]
          · exact SRel.of0 (s := .poison) trivial
        · exact SRel.of0 (s := .poison) trivial
        · rename_i hn1 hn2 hn3 hn4
          cases u with
          | lst k e x => cases k with
            | clip => exact absurd rfl (hn1 _ _)
            | nn => exact hold
            | tip T n => exact absurd rfl (hn2 _ _ _ _)
          | ptr id n root π => exact absurd rfl (hn3 _ _ _ _)
          | tup l => exact absurd rfl (hn4 _)
          | _ => exact hold
      -- the slice of a right
      have htip : ∀ p ∈ places ks, isTip (keepTag s (ptok p) (plc s p)) = true → (∃ ao n, plv p = .slice ao n n) ∨
          ∃ T n e x m, plc s p = .lst (.tip T n) e x ∧ lookO s.heap T = some (.tok m) ∧ g.ov T = (plv p, e.size) ∧ T ∈ tokOf s (plc s p) := by
        intro p hp ht
        obtain ⟨T0, n0, e0, x0, hex⟩ := isTip_spec ht
        have hpl := hplace p hp
        generalize hu : plc s p = u at *
        unfold keepTag at hex
        split at hex
        · obtain ⟨hr, ao, n, hn⟩ := hpl _ _ _ rfl
          exact .inl ⟨ao, n, hn⟩
        · rename_i T n e x
          obtain ⟨hr, m, hm, hle, hovT⟩ := hpl _ _ _ rfl
          simp only [hm] at hex
          cases hb : Nat.beq m n with
          | true =>
            have hmn := Nat.eq_of_beq_eq_true hb
            refine .inr ⟨T, n, e, x, m, rfl, hm, hovT hmn, ?_⟩
            simp [tokOf, hm, hb]
          | false => rw [hb] at hex; cases hex
        · split at hex <;> cases hex
        · cases hex
        · rename_i hn1 hn2 hn3 hn4
          exact absurd hex (hn2 _ _ _ _)
      refine ⟨g', rfl, fun t => ?_, hinv.size, hinv.defers, ⟨?_, ?_, ?_, ?_⟩, hinv.stp, hinv.lv, hinv.mt, hinv.hB, hinv.objs, hinv.pin, hinv.yl, hinv.hp, hinv.hrd, hinv.lv0⟩
      · show SRel P (kb ++ kh) g' w (look .poison ka t) (a.tmps.getD t undef)
        rw [look_lookO]
        cases hl : lookO ka t with
        | none => exact SRel.of0 (s := .poison) trivial
        | some v =>
          obtain ⟨ht, hv⟩ := s1 t v hl
          have hp : (true, t) ∈ places ks := mem_places.2 (.inl ⟨rfl, ht⟩)
          have hmem := hptr _ (lookO_mem hl)
          simp only [Option.getD_some]
          subst hv
          refine tagRel (true, t) hp _ (fun _ _ _ _ => rfl) (hinv.slots t) (fun id n root π hk => ?_)
          have hk' : keepTag s (tokId t) (look .poison s.slots t) = .ptr id n root π := hk
          rw [hk'] at hmem
          exact mem_iff.1 hmem
      · intro id n fz c hl
        obtain ⟨hid, rfl, m, c0, h1, hbx, h2⟩ := boxIn id n fz c hl
        obtain ⟨cs, et, q1, q2, q3⟩ := hinv.heap.box id m fz c0 h1
        have hιeq : g'.ι id 0 = g.ι id m := by simp only [g']; rw [hcur id m fz c0 h1]
        have hp : (false, id) ∈ places ks := mem_places.2 (.inr ⟨rfl, hid⟩)
        have hpl : plc s (false, id) = c0 := by simp only [plc, h1]
        refine ⟨cs, et, by rw [hιeq]; exact q1, ?_, by rw [hιeq]; exact q3⟩
        rw [h2]
        cases c0 with
        | dat τ x => exact q2
        | lst k e x =>
          obtain ⟨v, r1, r2⟩ := q2
          have hv : v = plv (false, id) := by simp only [plv, hcur id m fz _ h1, q1, r1, List.headD_cons]
          have hk := tagRel (false, id) hp v (fun _ _ _ _ => hv) (by rw [hpl]; exact SRel.of0 r2) (fun id' n root π hk => by
            rw [hpl] at hk
            cases k <;> simp only [keepTag] at hk
            · cases hk
            · split at hk
              · rename_i mm hb
                cases hbb : Nat.beq mm _ with
                | true => rw [hbb] at hk; cases hk
                | false => rw [hbb] at hk; cases hk
              · cases hk
            · cases hk)
          rw [hpl] at hk
          have hk : SRel P (kb ++ kh) g' w (keepTag s (btok id) (.lst k e x)) v := hk
          have hrep : RepV g.G w (.slc e) x v := by cases k <;> exact r2.1
          have hdat : ConRel P (kb ++ kh) g' w (.dat (.slc e) x) cs.toList := by
            have hcells := RepV.cells hrep
            obtain ⟨ao, cap, ev, _⟩ := RepV.slc hrep
            have : v.cells.toList = [v] := by rw [ev]; rfl
            rw [this] at hcells
            show Rep g.G w (.slc e) x cs.toList
            rw [r1]; exact hcells
          cases k with
          | clip => exact ⟨v, r1, hk⟩
          | nn => exact ⟨v, r1, hk⟩
          | tip T n =>
            simp only [keepTag] at hk ⊢
            split
            · rename_i mm hmm
              simp only [hmm] at hk
              cases hb : Nat.beq mm n with
              | true => rw [hb] at hk; exact ⟨v, r1, hk⟩
              | false => exact hdat
            · exact hdat
        | fn ps rs f => exact q2
        | seq es xs => exact q2
        | yld es => exact q2
        | ptr id' n' root' π' =>
          obtain ⟨v, r1, r2⟩ := q2
          have hmem : boxPtrIn ks.2 (id, .box 0 fz c) = true := by
            have hl' := hl
            rw [lookBox id (hidlt id hid)] at hl'
            exact hbptr _ (lookO_mem hl')
          rw [h2] at hmem
          have hk := tagRel (false, id) hp v (fun k e x he => by rw [hpl] at he; cases he) (by rw [hpl]; exact SRel.of0 r2) (fun id1 n1 root1 π1 hk => by
            rw [hpl] at hk
            have hk : keepTag s (btok id) (.ptr id' n' root' π') = .ptr id1 n1 root1 π1 := hk
            rw [hk] at hmem
            exact mem_iff.1 hmem)
          rw [hpl] at hk
          have hk : SRel P (kb ++ kh) g' w (keepTag s (btok id) (.ptr id' n' root' π')) v := hk
          revert hk hmem
          generalize hkt : keepTag s (btok id) (.ptr id' n' root' π') = kt
          intro hmem hk
          have hsh : kt = .poison ∨ ∃ id1 n1 root1 π1, kt = .ptr id1 n1 root1 π1 := by
            rw [← hkt]
            simp only [keepTag]
            split
            · exact .inr ⟨_, _, _, _, rfl⟩
            · exact .inl rfl
          rcases hsh with rfl | ⟨id1, n1, root1, π1, rfl⟩
          · exact Bool.noConfusion (show false = true from hmem)
          · exact ⟨v, r1, hk⟩
        | _ => cases hbx
      · intro T n hl
        obtain ⟨p, hp, rfl, rfl, ht⟩ := tokIn T n hl
        rcases htip p hp ht with ⟨ao, n, hn⟩ | ⟨T, n, e, x, m, h1, h2, h3, h4⟩
        · exact ⟨ao, n, n, by rw [hov p hp]; exact hn, Nat.le_refl _, .inl rfl⟩
        · obtain ⟨ao, k', c, q1, q2, q3⟩ := hinv.heap.tok T m h2
          rw [h3] at q1 q3
          refine ⟨ao, k', c, by rw [hov p hp]; exact q1, q2, ?_⟩
          rw [hov p hp, h1]
          exact q3
      · intro id n fz c id' n' fz' c' h1 h2 hne
        obtain ⟨_, rfl, m, c0, q1, _⟩ := boxIn id n fz c h1
        obtain ⟨_, rfl, m', c0', q1', _⟩ := boxIn id' n' fz' c' h2
        simp only [g']
        rw [hcur id m fz c0 q1, hcur id' m' fz' c0' q1']
        exact hinv.heap.apart _ _ _ _ _ _ _ _ q1 q1' hne
      · intro T n T' n' h1 h2 hne b hb hb'
        obtain ⟨p, hp, rfl, rfl, hex⟩ := tokIn T n h1
        obtain ⟨p', hp', rfl, rfl, hex'⟩ := tokIn T' n' h2
        have hkk : p ≠ p' := fun e => hne (by rw [e])
        rw [hov p hp] at hb
        rw [hov p' hp'] at hb'
        rcases htip p hp hex with ⟨ao, n, hn⟩ | ⟨T1, n1, e1, x1, m1, p1, p2, p3, p4⟩
        · rw [hn, roomOf] at hb
          cases ao <;> simp at hb
        · rcases htip p' hp' hex' with ⟨ao, n, hn⟩ | ⟨T2, n2, e2, x2, m2, q1, q2, q3, q4⟩
          · rw [hn, roomOf] at hb'
            cases ao <;> simp at hb'
          · have hTT : T1 ≠ T2 := fun e => s5 p hp p' hp' hkk T1 p4 (e ▸ q4)
            refine hinv.heap.rooms T1 m1 T2 m2 p2 q2 hTT b ?_ ?_
            · rw [p3]; exact hb
            · rw [q3]; exact hb'
  · cases h
end Go.Vi
