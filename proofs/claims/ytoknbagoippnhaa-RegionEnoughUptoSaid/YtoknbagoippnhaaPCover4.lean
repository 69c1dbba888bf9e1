/- What the search answers is right. -/
import Derived.Test.YtoknbagoippnhaaPCover3
namespace Go.Fn
open Go Go.Vi

theorem pick_in (c : Cu) : cHas c (cPick c) = true := cHas_iff.2 fun j _ => tHas_iff.2 fun i hi => by
  unfold cPick tClean
  rw [BitVec.getLsbD_and, hi, Bool.and_true]
theorem within_in {a b : Cu} {h : He} (hw : cWithin a b = true) (ha : cHas a h = true) : cHas b h = true := by
  have hw' := allN_iff.1 hw
  rw [cHas_iff] at ha ⊢
  intro j hj
  rw [tHas_iff]
  intro i hi
  obtain ⟨h1, h2⟩ := tWithin_iff.1 (hw' j hj) i hi
  rw [h2]
  exact tHas_iff.1 (ha j hj) i h1
theorem meet_of {a b : Cu} {h : He} (ha : cHas a h = true) (hb : cHas b h = true) : cMeetOk a b = true := by
  have := cMeet_has a b h
  rw [ha, hb] at this
  cases hm : cMeetOk a b with
  | true => rfl
  | false => rw [hm] at this; cases this
theorem meet_ex {a b : Cu} (hm : cMeetOk a b = true) : ∃ h, cHas a h = true ∧ cHas b h = true := by
  have := cMeet_has a b (cPick (cMeet a b))
  rw [hm, pick_in] at this
  exact ⟨_, by simpa using this⟩
theorem part_in {a b p : Cu} {h : He} (hp : p ∈ partsS a b) (hh : cHas p h = true) : cHas a h = true ∧ cHas b h = false := by
  have h1 := partsS_count a b h
  have h2 : 0 < (partsS a b).countP (fun c => cHas c h) := List.countP_pos_iff.2 ⟨p, hp, hh⟩
  rw [h1] at h2
  revert h2
  cases cHas a h <;> cases cHas b h <;> simp
theorem part_ex {a b : Cu} {h : He} (ha : cHas a h = true) (hb : cHas b h = false) : ∃ p ∈ partsS a b, cHas p h = true := by
  have h1 := partsS_count a b h
  rw [ha, hb] at h1
  exact List.countP_pos_iff.1 (by rw [h1]; decide)
theorem first_none {c : Cu} : ∀ {l : List Cu}, firstS c l = none → ∀ x ∈ l, cMeetOk c x = false
  | [], _, x, hx => (by simp at hx)
  | y :: l, h, x, hx => by
    unfold firstS at h
    cases hm : cMeetOk c y with
    | true => rw [hm] at h; cases h
    | false =>
      rw [hm] at h
      rcases List.mem_cons.1 hx with rfl | hx
      · exact hm
      · exact first_none h x hx
theorem first_some {c x : Cu} {suf : List Cu} : ∀ {l : List Cu}, firstS c l = some (x, suf) → cMeetOk c x = true ∧ meetsS c l = x :: meetsS c suf ∧ suf.length < l.length ∧ x ∈ l ∧ (∀ y ∈ suf, y ∈ l) ∧ ∀ y ∈ l, y = x ∨ y ∈ suf ∨ cMeetOk c y = false
  | [], h => by cases h
  | y :: l, h => by
    unfold firstS at h
    cases hm : cMeetOk c y with
    | true =>
      rw [hm] at h
      simp only [cond_true, Option.some.injEq, Prod.mk.injEq] at h
      obtain ⟨rfl, rfl⟩ := h
      refine ⟨hm, by unfold meetsS; rw [List.filter_cons, hm]; rfl, by simp, by simp, fun z hz => by simp [hz], fun z hz => ?_⟩
      rcases List.mem_cons.1 hz with rfl | hz
      · exact .inl rfl
      · exact .inr (.inl hz)
    | false =>
      rw [hm] at h
      obtain ⟨h1, h2, h3, h4, h5, h6⟩ := first_some (l := l) h
      refine ⟨h1, by rw [← h2]; unfold meetsS; rw [List.filter_cons, hm]; rfl, by simp; omega, by simp [h4], fun z hz => by simp [h5 z hz], fun z hz => ?_⟩
      rcases List.mem_cons.1 hz with rfl | hz
      · exact .inr (.inr hm)
      · exact h6 z hz

def Right (c : Cu) (l : List Cu) (r : He × Bool × Int) : Prop :=
  (r.2.1 = true → cHas c r.1 = true ∧ ∀ x ∈ l, cHas x r.1 = false) ∧ (r.2.1 = false → 0 ≤ r.2.2 → ∀ g, cHas c g = true → ∃ x ∈ l, cHas x g = true)
theorem ploop_right (f : Cu → Int → He × Bool × Int) (suf : List Cu) : ∀ (ps : List Cu) (left : Int), 0 ≤ left → (∀ p ∈ ps, ∀ left, 0 ≤ left → Right p suf (f p left)) →
    ((ploop f ps left).2.1 = true → ∃ p ∈ ps, cHas p (ploop f ps left).1 = true ∧ ∀ x ∈ suf, cHas x (ploop f ps left).1 = false) ∧ ((ploop f ps left).2.1 = false → 0 ≤ (ploop f ps left).2.2 → ∀ p ∈ ps, ∀ g, cHas p g = true → ∃ x ∈ suf, cHas x g = true)
  | [], left, _, _ => ⟨fun h => (by cases h), fun _ _ p hp => (by simp at hp)⟩
  | p :: ps, left, h0, hf => by
    have h := hf p (by simp) left h0
    unfold ploop
    rcases Bool.eq_false_or_eq_true ((f p left).2.1 || decide ((f p left).2.2 < 0)) with hb | hb
    · rw [hb]
      simp only [cond_true]
      refine ⟨fun hk => ⟨p, by simp, h.1 hk⟩, fun hk hl => ?_⟩
      rw [hk] at hb
      simp at hb
      omega
    · rw [hb]
      simp only [cond_false]
      simp at hb
      obtain ⟨g1, g2⟩ := ploop_right f suf ps (f p left).2.2 (by omega) fun q hq => hf q (by simp [hq])
      refine ⟨fun hk => ?_, fun hk hl q hq => ?_⟩
      · obtain ⟨q, hq, h'⟩ := g1 hk
        exact ⟨q, by simp [hq], h'⟩
      · rcases List.mem_cons.1 hq with rfl | hq
        · exact h.2 hb.1 (by omega)
        · exact g2 hk hl q hq
theorem lookS_right (free : Bool) : ∀ (k : Nat) (c : Cu) (l : List Cu) (left : Int), l.length < k → 0 ≤ left → Right c l (lookS free k c l left)
  | k + 1, c, l, left, hk, h0 => by
    unfold lookS
    rcases Bool.eq_false_or_eq_true (!free && decide (left < 1)) with hb | hb
    · rw [hb]
      exact ⟨fun h => (by cases h), fun _ h => (by simp at h)⟩
    · rw [hb]
      have hl : 0 ≤ (bif free then left else left - 1) ∧ (bif free then left else left - 1) ≤ left := by
        cases free with
        | true => exact ⟨h0, Int.le_refl _⟩
        | false => simp at hb; simp only [cond_false]; omega
      simp only [cond_false]
      generalize (bif free then left else left - 1) = left' at hl
      rcases Bool.eq_false_or_eq_true (l.any (cWithin c)) with ha | ha
      · rw [ha]
        refine ⟨fun h => (by cases h), fun _ _ g hg => ?_⟩
        obtain ⟨x, hx, hw⟩ := List.any_eq_true.1 ha
        exact ⟨x, hx, within_in hw hg⟩
      · rw [ha]
        simp only [cond_false]
        cases hf : firstS c l with
        | none =>
          refine ⟨fun _ => ⟨pick_in c, fun x hx => ?_⟩, fun h => by cases h⟩
          cases hh : cHas x (cPick c) with
          | false => rfl
          | true =>
            have := first_none hf x hx
            rw [meet_of (pick_in c) hh] at this
            cases this
        | some y =>
          obtain ⟨h1, h2, h3, h4, h5, h6⟩ := first_some (x := y.1) (suf := y.2) hf
          obtain ⟨g1, g2⟩ := ploop_right (fun p left => lookS free k p y.2 left) y.2 (partsS c y.1) left' hl.1 fun p _ left h => lookS_right free k p y.2 left (by omega) h
          refine ⟨fun hk => ?_, fun hk hl g hg => ?_⟩
          · obtain ⟨p, hp, e1, e2⟩ := g1 hk
            obtain ⟨q1, q2⟩ := part_in hp e1
            refine ⟨q1, fun z hz => ?_⟩
            rcases h6 z hz with rfl | hz | hz
            · exact q2
            · exact e2 z hz
            · cases hh : cHas z _ with
              | false => rfl
              | true => rw [meet_of q1 hh] at hz; cases hz
          · cases hx : cHas y.1 g with
            | true => exact ⟨y.1, h4, hx⟩
            | false =>
              obtain ⟨p, hp, hpg⟩ := part_ex hg hx
              obtain ⟨z, hz, hzg⟩ := g2 hk hl p hp g hpg
              exact ⟨z, h5 z hz, hzg⟩

end Go.Fn
