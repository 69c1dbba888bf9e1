/- What the search answers is right. -/
import Derived.Test.YtagpigbfbhdoiaaPCover3
namespace Go.Fn
open Go Go.Vi

theorem pick_in (c : Cu) : cHas c (cPick c) = true := cHas_iff.2 fun j _ => tHas_iff.2 fun i hi => by
  unfold cPick tClean
  rw [BitVec.getLsbD_and, hi, Bool.and_true]
theorem within_in {a b : Cu} {h : He} (hw : cWithin a b = true) (ha : cHas a h = true) : cHas b h = true := by
  have hw' := allN_iff.1 hw
  rw [cHas_iff] at ha ⊢
  intro j hj
  rw [tHas_iff]
  intro i hi
  obtain ⟨h1, h2⟩ := tWithin_iff.1 (hw' j hj) i hi
  rw [h2]
  exact tHas_iff.1 (ha j hj) i h1
theorem meet_of {a b : Cu} {h : He} (ha : cHas a h = true) (hb : cHas b h = true) : cMeetOk a b = true := by
  have := cMeet_has a b h
  rw [ha, hb] at this
  cases hm : cMeetOk a b with
  | true => rfl
  | false => rw [hm] at this; cases this
theorem meet_ex {a b : Cu} (hm : cMeetOk a b = true) : ∃ h, cHas a h = true ∧ cHas b h = true := by
  have := cMeet_has a b (cPick (cMeet a b))
  rw [hm, pick_in] at this
  exact ⟨_, by simpa using this⟩
theorem part_in {a b p : Cu} {h : He} (hp : p ∈ partsS a b) (hh : cHas p h = true) : cHas a h = true ∧ cHas b h = false := by
  have h1 := partsS_count a b h
  have h2 : 0 < (partsS a b).countP (fun c => cHas c h) := List.countP_pos_iff.2 ⟨p, hp, hh⟩
  rw [h1] at h2
  revert h2
  cases cHas a h <;> cases cHas b h <;> simp
theorem part_ex {a b : Cu} {h : He} (ha : cHas a h = true) (hb : cHas b h = false) : ∃ p ∈ partsS a b, cHas p h = true := by
  have h1 := partsS_count a b h
  rw [ha, hb] at h1
  exact List.countP_pos_iff.1 (by rw [h1]; decide)
theorem first_none {c : Cu} : ∀ {l : List Cu}, firstS c l = none → ∀ x ∈ l, cMeetOk c x = false
  | [], _, x, hx => (by simp at hx)
  | y :: l, h, x, hx => by
    unfold firstS at h
    cases hm : cMeetOk c y with
    | true => rw [hm] at h; cases h
    | false =>
      rw [hm] at h
      rcases List.mem_cons.1 hx with rfl | hx
      · exact hm
      · exact first_none h x hx
theorem first_some {c x : Cu} {suf : List Cu} : ∀ {l : List Cu}, firstS c l = some (x, suf) → cMeetOk c x = true ∧ meetsS c l = x :: meetsS c suf ∧ suf.length < l.length ∧ x ∈ l ∧ (∀ y ∈ suf, y ∈ l) ∧ ∀ y ∈ l, y = x ∨ y ∈ suf ∨ cMeetOk c y = false
  | [], h => by cases h
  | y :: l, h => by
    unfold firstS at h
    cases hm : cMeetOk c y with
    | true =>
      rw [hm] at h
      simp only [cond_true, Option.some.injEq, Prod.mk.injEq] at h
      obtain ⟨rfl, rfl⟩ := h
      refine ⟨hm, by unfold meetsS; rw [List.filter_cons, hm]; rfl, by simp, by simp, fun z hz => by simp [hz], fun z hz => ?_⟩
      rcases List.mem_cons.1 hz with rfl | hz
      · exact .inl rfl
      · exact .inr (.inl hz)
    | false =>
      rw [hm] at h
      obtain ⟨h1, h2, h3, h4, h5, h6⟩ := first_some (l := l) h
      refine ⟨h1, by rw [← h2]; unfold meetsS; rw [List.filter_cons, hm]; rfl, by simp; omega, by simp [h4], fun z hz => by simp [h5 z hz], fun z hz => ?_⟩
      rcases List.mem_cons.1 hz with rfl | hz
      · exact .inr (.inr hm)
      · exact h6 z hz

def Right (c : Cu) (l : List Cu) (r : He × Bool × Int) : Prop :=
  (r.2.1 = true → cHas c r.1 = true ∧ ∀ x ∈ l, cHas x r.1 = false) ∧ (r.2.1 = false → 0 ≤ r.2.2 → ∀ g, cHas c g = true → ∃ x ∈ l, cHas x g = true)
theorem ploop_right (f : Cu → Int → He × Bool × Int) (suf : List Cu) : ∀ (ps : List Cu) (left : Int), 0 ≤ left → (∀ p ∈ ps, ∀ left, 0 ≤ left → Right p suf (f p left)) →
    ((ploop f ps left).2.1 = true → ∃ p ∈ ps, cHas p (ploop f ps left).1 = true ∧ ∀ x ∈ suf, cHas x (ploop f ps left).1 = false) ∧ ((ploop f ps left).2.1 = false → 0 ≤ (ploop f ps left).2.2 → ∀ p ∈ ps, ∀ g, cHas p g = true → ∃ x ∈ suf, cHas x g = true)
  | [], left, _, _ => ⟨fun h => (by cases h), fun _ _ p hp => (by simp at hp)⟩
  | p :: ps, left, h0, hf => by
    have h := hf p (by simp) left h0
    unfold ploop
    rcases Bool.eq_false_or_eq_true ((f p left).2.1 || decide ((f p left).2.2 < 0)) with hb | hb
    · rw [hb]
      simp only [cond_true]
      refine ⟨fun hk => ⟨p, by simp, h.1 hk⟩, fun hk hl => ?_⟩
      rw [hk] at hb
      simp at hb
      omega
    · rw [hb]
      simp only [cond_false]
      simp at hb
      obtain ⟨g1, g2⟩ := ploop_right f suf ps (f p left).2.2 (by omega) fun q hq => hf q (by simp [hq])
      refine ⟨fun hk => ?_, fun hk hl q hq => ?_⟩
      · obtain ⟨q, hq, h'⟩ := g1 hk
        exact ⟨q, by simp [hq], h'⟩
      · rcases List.mem_cons.1 hq with rfl | hq
        · exact h.2 hb.1 (by omega)
        · exact g2 hk hl q hq
theorem lookS_right (free : Bool) : ∀ (k : Nat) (c : Cu) (l : List Cu) (left : Int), l.length < k → 0 ≤ left → Right c l (lookS free k c l left)
  | k + 1, c, l, left, hk, h0 => by
    unfold lookS
    rcases Bool.eq_false_or_eq_true (!free && decide (left < 1)) with hb | hb
    · rw [hb]
      exact ⟨fun h => (by cases h), fun _ h => (by simp at h)⟩
    · rw [hb]
      have hl : 0 ≤ (bif free then left else left - 1) ∧ (bif free then left else left - 1) ≤ left := by
        cases free with
        | true => exact ⟨h0, Int.le_refl _⟩
        | false => simp at hb; simp only [cond_false]; omega
      simp only [cond_false]
      generalize (bif free then left else left - 1) = left' at hl
      rcases Bool.eq_false_or_eq_true (l.any (cWithin c)) with ha | ha
      · rw [ha]
        refine ⟨fun h => (by cases h), fun _ _ g hg => ?_⟩
        obtain ⟨x, hx, hw⟩ := List.any_eq_true.1 ha
        exact ⟨x, hx, within_in hw hg⟩
      · rw [ha]
        simp only [cond_false]
        cases hf : firstS c l with
        | none =>
          refine ⟨fun _ => ⟨pick_in c, fun x hx => ?_⟩, fun h => by cases h⟩
          cases hh : cHas x (cPick c) with
          | false => rfl
          | true =>
            have := first_none hf x hx
            rw [meet_of (pick_in c) hh] at this
            cases this
        | some y =>
          obtain ⟨h1, h2, h3, h4, h5, h6⟩ := first_some (x := y.1) (suf := y.2) hf
          obtain ⟨g1, g2⟩ := ploop_right (fun p left => lookS free k p y.2 left) y.2 (partsS c y.1) left' hl.1 fun p _ left h => lookS_right free k p y.2 left (by omega) h
          refine ⟨fun hk => ?_, fun hk hl g hg => ?_⟩
          · obtain ⟨p, hp, e1, e2⟩ := g1 hk
            obtain ⟨q1, q2⟩ := part_in hp e1
            refine ⟨q1, fun z hz => ?_⟩
            rcases h6 z hz with rfl | hz | hz
            · exact q2
            · exact e2 z hz
            · cases hh : cHas z _ with
              | false => rfl
              | true => rw [meet_of q1 hh] at hz; cases hz
          · cases hx : cHas y.1 g with
            | true => exact ⟨y.1, h4, hx⟩
            | false =>
              obtain ⟨p, hp, hpg⟩ := part_ex hg hx
              obtain ⟨z, hz, hzg⟩ := g2 hk hl p hp g hpg
              exact ⟨z, h5 z hz, hzg⟩

theorem index_loop (n : Nat) (f : Cube → Option Bool) (q : Cu → Bool) (hf : ∀ x, f (cu x) = some (q x)) (l : List Cu) (hL : l.length ≤ 4611686018427387904) : ∀ (suf pre : List Cu) (m : Nat), l = pre ++ suf → suf.length < m →
    ∃ i : Int, slices_IndexFunc_Cube.l0 n (l.map cu) f ((l.length : Nat) : Int) m ((pre.length : Nat) : Int) = some i ∧ decide (i ≥ 0) = suf.any q
  | [], pre, m + 1, he, _ => by
    have hlt : ¬ ((pre.length : Nat) : Int) < ((l.length : Nat) : Int) := by rw [he]; simp
    refine ⟨-1, ?_, rfl⟩
    simp only [slices_IndexFunc_Cube.l0, slices_IndexFunc_Cube.s0, hlt, decide_false, cond_false]
  | x :: suf, pre, m + 1, he, hm => by
    have hlen : l.length = pre.length + suf.length + 1 := by rw [he]; simp; omega
    have hlt : ((pre.length : Nat) : Int) < ((l.length : Nat) : Int) := by omega
    have hin : inRange ((pre.length : Nat) : Int) l.length = true := inRange_true (by omega) hlt
    have hg : List.getD (l.map cu) pre.length (List.replicate 24 ((0, 0), 0, 0)) = cu x := by rw [he]; exact cus_get pre x suf
    have hw : IntKind.wrap .i64 (((pre.length : Nat) : Int) + 1) = (((pre ++ [x]).length : Nat) : Int) := by rw [w64 (by omega) (by omega)]; simp
    simp only [List.length_cons] at hm
    simp only [slices_IndexFunc_Cube.l0, slices_IndexFunc_Cube.s0, List.length_map, hlt, decide_true, cond_true, hin, Int.toNat_natCast, hg, hf, obind_some, hw, List.any_cons]
    cases q x with
    | true => exact ⟨_, rfl, by rw [Bool.true_or, decide_eq_true_eq]; omega⟩
    | false =>
      rw [cond_false, Bool.false_or]
      exact index_loop n f q hf l hL suf (pre ++ [x]) m (by rw [he]; simp) (by omega)
theorem contains_eq (n : Nat) (f : Cube → Option Bool) (q : Cu → Bool) (hf : ∀ x, f (cu x) = some (q x)) (l : List Cu) (hL : l.length ≤ 4611686018427387904) (hl : l.length < n) : slices_ContainsFunc_Cube n (l.map cu) f = some (l.any q) := by
  obtain ⟨i, h1, h2⟩ := index_loop n f q hf l hL l [] n rfl hl
  have : slices_IndexFunc_Cube n (l.map cu) f = some i := by
    simp only [slices_IndexFunc_Cube, slices_IndexFunc_Cube.s, List.length_map]
    exact h1
  simp only [slices_ContainsFunc_Cube, this, obind_some, h2]

theorem cover_tells (c : Cu) (l : List Cu) (most : Int) (hm' : most ≤ 9223372036854775807) (g : He) : law08_CoverTells (4000 + 140) (cu c) (l.map cu) most (hd g) = some true := by
  obtain ⟨b, hb, h12⟩ := cover_light (4000 + 140) (by omega) c l most
  simp only [law08_CoverTells, hb, obind_some, cover_awake]
  cases b with
  | false => rfl
  | true =>
    have h12 := h12 rfl
    have hr := lookS_right (decide (most ≥ 1099511627776)) (4000 + 140) c l (maxI most 0) (by omega) (most_range hm').1
    have hc := fun h : He => contains_eq (4000 + 140) (fun x => law08_CoverTells_1 (4000 + 140) x (hd h)) (fun x => cHas x h) (fun x => by simp only [law08_CoverTells_1, cube_has (4000 + 140) (by omega), obind_some]) l (by omega) (by omega)
    have hc' := fun h : He => contains_eq (4000 + 140) (fun x => law08_CoverTells_2 (4000 + 140) x (hd h)) (fun x => cHas x h) (fun x => by simp only [law08_CoverTells_2, cube_has (4000 + 140) (by omega), obind_some]) l (by omega) (by omega)
    simp only [cover_look (4000 + 140) (by omega) c l most hm' (by omega) (by omega), obind_some, Bool.not_true, cond_false]
    unfold LookS
    generalize lookS (decide (most ≥ 1099511627776)) (4000 + 140) c l (maxI most 0) = r at hr
    unfold ansS
    by_cases hn : r.2.2 < 0
    · rw [decide_eq_true hn]; rfl
    · rw [decide_eq_false hn]
      simp only [cond_false, bne_self_eq_false]
      rcases Bool.eq_false_or_eq_true r.2.1 with hk | hk
      · obtain ⟨k1, k2⟩ := hr.1 hk
        have hany : l.any (fun x => cHas x r.1) = false := by
          rw [List.any_eq_false]
          intro x hx
          rw [k2 x hx]; simp
        simp only [hk, cond_true, cube_has (4000 + 140) (by omega), k1, obind_some, beq_self_eq_true, hc, hany, Bool.not_false]
      · have := hr.2 hk (by omega) g
        simp only [hk, cond_false, cube_has (4000 + 140) (by omega), obind_some]
        rcases Bool.eq_false_or_eq_true (cHas c g) with hg | hg
        · obtain ⟨x, hx, hxg⟩ := this hg
          have hany : l.any (fun x => cHas x g) = true := List.any_eq_true.2 ⟨x, hx, hxg⟩
          simp only [hg, Bool.not_true, beq_self_eq_true, cond_true, hc', hany, obind_some]
        · simp only [hg, Bool.not_false, show (true == false) = false from rfl, cond_false]
end Go.Fn
