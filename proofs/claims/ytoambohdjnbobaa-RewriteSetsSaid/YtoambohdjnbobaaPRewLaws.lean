/- The plain laws of rewritings. -/
import Derived.Test.YtoambohdjnbobaaPRew
namespace Go.Fn
open Go Go.Vi

theorem pureRewriteTells : ∀ x : pdens (law09_RewriteTells.τs.map PTy.data), WfP law09_RewriteTells.τs x → ∃ n, law09_RewriteTells.g n x = some true := by
  rintro ⟨a, b, c, h⟩ ⟨ha, hb, hc, hh⟩
  obtain ⟨a, rfl⟩ := cu_wf ha
  obtain ⟨b, rfl⟩ := cu_wf hb
  obtain ⟨c, rfl⟩ := cu_wf hc
  obtain ⟨h, rfl⟩ := hd_wf hh
  refine ⟨4 + 26, ?_⟩
  show law09_RewriteTells (4 + 26) (cu a) (cu b) (cu c) (hd h) = some true
  have hn : 24 < 4 + 26 := by omega
  have e0 : beqT (.arr 24 TyT) rewrite_None ref09_None = true := by kernel_rfl
  unfold law09_RewriteTells
  simp only [rew_before _ hn, ref_before _ hn, rew_apply _ hn, ref_apply _ hn, rew_then _ hn, ref_then _ hn, rew_after _ hn, ref_after _ hn, rew_clean _ hn, ref_clean _ hn, rew_awake]
  cases cMeetOk a c <;>
    simp only [cond_true, cond_false, obind_some, cu_beq_true fun _ _ => rfl, hd_beq_true fun _ _ => rfl, e0, beq_self_eq_true]

theorem over_at (f : Nat) (value mask : W128) (r : Cu) (j : Nat) :
    (if j = f then tOver (cClean r f) (value, mask) else cClean r j) = tOver (r j) (if j = f then (value, mask) else (0, 0)) := by
  by_cases h : j = f
  · subst h
    rw [if_pos rfl, if_pos rfl]
    unfold tOver cClean tClean
    refine Prod.ext (bits_ext fun i => ?_) rfl
    simp only [BitVec.getLsbD_or, BitVec.getLsbD_and, BitVec.getLsbD_not]
    cases (r j).1.getLsbD i <;> cases (r j).2.getLsbD i <;> simp
  · rw [if_neg h, if_neg h]
    unfold tOver cClean tClean
    refine Prod.ext (bits_ext fun i => ?_) (bits_ext fun i => ?_)
    · simp only [BitVec.getLsbD_or, BitVec.getLsbD_and, BitVec.getLsbD_not, BitVec.getLsbD_zero]
      by_cases hi : i < 128
      · simp [hi]
      · rw [BitVec.getLsbD_of_ge _ _ (by omega)]; simp
    · simp
theorem over_none (r : BT) : tOver r (0, 0) = tClean r := by
  unfold tOver tClean
  refine Prod.ext (bits_ext fun i => ?_) (bits_ext fun i => ?_)
  · simp only [BitVec.getLsbD_or, BitVec.getLsbD_and, BitVec.getLsbD_not, BitVec.getLsbD_zero]
    by_cases hi : i < 128
    · simp [hi]
    · rw [BitVec.getLsbD_of_ge _ _ (by omega)]; simp
  · simp
theorem pureRewriteSets : ∀ x : pdens (law09_RewriteSets.τs.map PTy.data), WfP law09_RewriteSets.τs x → ∃ n, law09_RewriteSets.g n x = some true := by
  rintro ⟨r, f, v, m⟩ ⟨hr, _, hv, hm⟩
  obtain ⟨r, rfl⟩ := cu_wf hr
  obtain ⟨v, rfl⟩ := Wd_wf hv
  obtain ⟨m, rfl⟩ := Wd_wf hm
  refine ⟨4 + 26, ?_⟩
  show law09_RewriteSets (4 + 26) (cu r) f (Wd v) (Wd m) = some true
  have hn : 24 < 4 + 26 := by omega
  have e0 : ([((0, 0), 0, 0), ((0, 0), 0, 0), ((0, 0), 0, 0), ((0, 0), 0, 0), ((0, 0), 0, 0), ((0, 0), 0, 0), ((0, 0), 0, 0), ((0, 0), 0, 0), ((0, 0), 0, 0), ((0, 0), 0, 0), ((0, 0), 0, 0), ((0, 0), 0, 0), ((0, 0), 0, 0), ((0, 0), 0, 0), ((0, 0), 0, 0), ((0, 0), 0, 0), ((0, 0), 0, 0), ((0, 0), 0, 0), ((0, 0), 0, 0), ((0, 0), 0, 0), ((0, 0), 0, 0), ((0, 0), 0, 0), ((0, 0), 0, 0), ((0, 0), 0, 0)] : Rewrite) = cu fun _ => (0, 0) := rfl
  unfold law09_RewriteSets rewrite_Set ref09_Set
  rw [rew_clean _ hn, obind_some, e0]
  by_cases hf : f ≥ 0 ∧ f < 24
  · obtain ⟨f, rfl⟩ := Int.eq_ofNat_of_zero_le hf.1
    have hf2 : (f : Int) < 24 := hf.2
    have hf' : f < 24 := by omega
    have e1 : field_Right (f : Int) = true := by
      have h1 : decide ((f : Int) ≥ 0) = true := decide_eq_true (by omega)
      have h2 : decide ((f : Int) < 24) = true := decide_eq_true (by omega)
      simp only [field_Right, h1, h2]; rfl
    have e2 : ref03_Right (f : Int) = true := e1
    have e3 : List.set (cu (cClean r)) f (Tn (tOver (cClean r f) (v, m))) = cu fun j => if j = f then tOver (cClean r f) (v, m) else cClean r j := by
      unfold cu
      rw [arr_set]
      exact arr_congr fun j _ => by by_cases h : j = f <;> simp [h]
    have e4 : List.set (cu fun _ => (0, 0)) f (Tn (v, m)) = cu fun j => if j = f then (v, m) else (0, 0) := by
      unfold cu
      rw [arr_set]
      exact arr_congr fun j _ => by by_cases h : j = f <;> simp [h]
    simp only [e1, e2, obind_some, cond_true, in24 hf', Int.toNat_natCast, cu_gn _ hf', Tn_mk, rew_over, e3, e4, ref_then _ hn, rew_awake]
    rw [cu_congr fun j _ => over_at f v m r j, cu_self]; rfl
  · have e1 : field_Right f = false := by
      simp only [field_Right]
      by_cases h : f ≥ 0
      · have : ¬ f < 24 := fun h' => hf ⟨h, h'⟩
        simp [h, this]
      · simp [h]
    have e2 : ref03_Right f = false := e1
    simp only [e1, e2, obind_some, cond_false, ref_then _ hn, rew_awake]
    rw [cu_congr (c := fun j => tOver (r j) (0, 0)) (c' := cClean r) fun j _ => over_none (r j), cu_self]; rfl

theorem apply_over (a b : BT) (v : W128) : wApply (tOver a b) v = wApply b (wApply a v) := by
  unfold wApply tOver
  refine bits_ext fun i => ?_
  simp only [BitVec.getLsbD_or, BitVec.getLsbD_and, BitVec.getLsbD_not]
  by_cases hi : i < 128
  · simp only [hi, decide_true, Bool.true_and]
    cases a.1.getLsbD i <;> cases b.1.getLsbD i <;> cases a.2.getLsbD i <;> cases b.2.getLsbD i <;> cases v.getLsbD i <;> rfl
  · simp [BitVec.getLsbD_of_ge _ _ (show 128 ≤ i by omega)]
theorem over_assoc (a b c : BT) : tOver (tOver a b) c = tOver a (tOver b c) := by
  unfold tOver
  refine Prod.ext (bits_ext fun i => ?_) (bits_ext fun i => ?_)
  · simp only [BitVec.getLsbD_or, BitVec.getLsbD_and, BitVec.getLsbD_not]
    by_cases hi : i < 128
    · simp only [hi, decide_true, Bool.true_and]
      cases a.1.getLsbD i <;> cases b.1.getLsbD i <;> cases a.2.getLsbD i <;> cases b.2.getLsbD i <;> cases c.1.getLsbD i <;> cases c.2.getLsbD i <;> rfl
    · simp [BitVec.getLsbD_of_ge _ _ (show 128 ≤ i by omega)]
  · simp only [BitVec.getLsbD_or, Bool.or_assoc]
theorem pureRewriteThen : ∀ x : pdens (law09_RewriteThen.τs.map PTy.data), WfP law09_RewriteThen.τs x → ∃ n, law09_RewriteThen.g n x = some true := by
  rintro ⟨a, b, c, h⟩ ⟨ha, hb, hc, hh⟩
  obtain ⟨a, rfl⟩ := cu_wf ha
  obtain ⟨b, rfl⟩ := cu_wf hb
  obtain ⟨c, rfl⟩ := cu_wf hc
  obtain ⟨h, rfl⟩ := hd_wf hh
  refine ⟨4 + 26, ?_⟩
  show law09_RewriteThen (4 + 26) (cu a) (cu b) (cu c) (hd h) = some true
  have hn : 24 < 4 + 26 := by omega
  unfold law09_RewriteThen
  simp only [rew_apply _ hn, rew_then _ hn, rew_awake, obind_some]
  rw [hd_congr (c := rApply (fun j => tOver (a j) (b j)) h) (c' := rApply b (rApply a h)) fun j _ => apply_over (a j) (b j) (h j), cu_congr fun j _ => over_assoc (a j) (b j) (c j), hd_self, cu_self]
  rfl

theorem cube_has (n : Nat) (hn : 24 < n) (c : Cu) (h : He) : cube_Has n (cu c) (hd h) = some (cHas c h) := by
  show cube_Has.l0 n (cu c) (hd h) n 0 = _
  rw [loopN_start (σ := Unit) (step := fun i (_ : Unit) => bif tHas (c i) (h i) then .inr () else .inl (some false)) (fin := fun _ => some true) (fun m _ i => cube_Has.l0 n (cu c) (hd h) m i) 24
    (fun m s i hi => by
      simp only [cube_Has.l0, cube_Has.s0, lt24 hi, cond_true, in24 hi, Int.toNat_natCast, cu_gn c hi, hd_gn h hi, tern_has, obind_some, nx24 hi]
      cases tHas (c i) (h i) <;> rfl)
    (fun m s => by simp only [cube_Has.l0, cube_Has.s0]; rfl) hn, loopN_all0]
  unfold cHas
  cases allN 24 fun j => tHas (c j) (h j) <;> rfl

/-- What is made of a header is in a cube just if the header is in what was before it. -/
theorem before_has (r c : BT) (v : W128) : tHas c (wApply r v) = (tMeetOk r c && tHas (tClean (c.1, c.2 &&& ~~~r.2)) v) := by
  rw [Bool.eq_iff_iff, Bool.and_eq_true, tHas_iff, tMeetOk_iff, tHas_iff]
  unfold tClean wApply
  simp only [BitVec.getLsbD_or, BitVec.getLsbD_and, BitVec.getLsbD_not]
  constructor
  · intro h
    refine ⟨fun i p q => ?_, fun i p => ?_⟩
    · have := h i q
      rw [this, p]; simp
    · rw [Bool.and_eq_true] at p
      have := h i p.1
      have hi := BitVec.lt_of_getLsbD p.1
      simp only [hi, decide_true, Bool.true_and] at p this ⊢
      rw [this, p.1]
      have : r.2.getLsbD i = false := by simpa using p.2
      rw [this]; simp
  · rintro ⟨h1, h2⟩ i hc
    have hi := BitVec.lt_of_getLsbD hc
    have h1 := h1 i
    have h2 := h2 i
    simp only [hi, decide_true, Bool.true_and, hc] at h1 h2 ⊢
    revert h1 h2
    cases r.1.getLsbD i <;> cases r.2.getLsbD i <;> cases c.1.getLsbD i <;> cases v.getLsbD i <;> simp
theorem cbefore_has (r c : Cu) (h : He) : cHas c (rApply r h) = (cMeetOk r c && cHas (rBefore r c) h) := by
  have key : ∀ j, (tHas (c j) (rApply r h j) = true) ↔ (tMeetOk (r j) (c j) = true ∧ tHas (rBefore r c j) (h j) = true) := fun j => by
    rw [← Bool.and_eq_true]
    exact iff_of_eq (congrArg (· = true) (before_has (r j) (c j) (h j)))
  rw [Bool.eq_iff_iff, Bool.and_eq_true]
  unfold cHas cMeetOk
  rw [allN_iff, allN_iff, allN_iff]
  exact ⟨fun k => ⟨fun j hj => ((key j).1 (k j hj)).1, fun j hj => ((key j).1 (k j hj)).2⟩, fun k j hj => (key j).2 ⟨k.1 j hj, k.2 j hj⟩⟩
theorem pureRewriteBefore : ∀ x : pdens (law09_RewriteBefore.τs.map PTy.data), WfP law09_RewriteBefore.τs x → ∃ n, law09_RewriteBefore.g n x = some true := by
  rintro ⟨r, c, h⟩ ⟨hr, hc, hh⟩
  obtain ⟨r, rfl⟩ := cu_wf hr
  obtain ⟨c, rfl⟩ := cu_wf hc
  obtain ⟨h, rfl⟩ := hd_wf hh
  refine ⟨4 + 26, ?_⟩
  show law09_RewriteBefore (4 + 26) (cu r) (cu c) (hd h) = some true
  have hn : 24 < 4 + 26 := by omega
  unfold law09_RewriteBefore
  have e := cbefore_has r c h
  simp only [rew_apply _ hn, rew_before _ hn, cube_has _ hn, rew_awake]
  cases hm : cMeetOk r c <;> rw [hm] at e <;> simp only [cond_true, cond_false, obind_some, cube_has _ hn, e, Bool.true_and, Bool.false_and, beq_self_eq_true] <;> rfl

theorem after_has (r c : BT) (v : W128) (h : tHas c v = true) : tHas (tOver c r) (wApply r v) = true := by
  rw [tHas_iff] at h ⊢
  unfold tOver wApply
  simp only [BitVec.getLsbD_or, BitVec.getLsbD_and, BitVec.getLsbD_not]
  intro i p
  have h := h i
  revert p h
  cases r.1.getLsbD i <;> cases r.2.getLsbD i <;> cases c.1.getLsbD i <;> cases c.2.getLsbD i <;> cases v.getLsbD i <;> simp
theorem apply_twice (r : BT) (v : W128) : wApply r (wApply r v) = wApply r v := by
  unfold wApply
  refine bits_ext fun i => ?_
  simp only [BitVec.getLsbD_or, BitVec.getLsbD_and, BitVec.getLsbD_not]
  by_cases hi : i < 128
  · simp only [hi, decide_true, Bool.true_and]
    cases r.1.getLsbD i <;> cases r.2.getLsbD i <;> cases v.getLsbD i <;> rfl
  · simp [BitVec.getLsbD_of_ge _ _ (show 128 ≤ i by omega)]
theorem pureRewriteAfter : ∀ x : pdens (law09_RewriteAfter.τs.map PTy.data), WfP law09_RewriteAfter.τs x → ∃ n, law09_RewriteAfter.g n x = some true := by
  rintro ⟨r, c, h⟩ ⟨hr, hc, hh⟩
  obtain ⟨r, rfl⟩ := cu_wf hr
  obtain ⟨c, rfl⟩ := cu_wf hc
  obtain ⟨h, rfl⟩ := hd_wf hh
  refine ⟨4 + 26, ?_⟩
  show law09_RewriteAfter (4 + 26) (cu r) (cu c) (hd h) = some true
  have hn : 24 < 4 + 26 := by omega
  unfold law09_RewriteAfter
  have e : hd (rApply r (rApply r h)) = hd (rApply r h) := hd_congr fun j _ => apply_twice (r j) (h j)
  simp only [rew_apply _ hn, rew_after _ hn, cube_has _ hn, rew_awake, obind_some, e, hd_self]
  cases hc : cHas c h with
  | false => rfl
  | true =>
    have : cHas (fun j => tOver (c j) (r j)) (rApply r h) = true := cHas_iff.2 fun j hj => after_has (r j) (c j) (h j) (cHas_iff.1 hc j hj)
    rw [this]; rfl
end Go.Fn
