/- The plain laws of terns. -/
import Derived.Test.YtpiboooclejjcaaPTern2
namespace Go.Fn
open Go Go.Vi

theorem tern_awake (k : Nat) : law05_awake (k + 140) = some true := by kernel_rfl
theorem ref05_has' (t : BT) (v : W128) : ref05_Has (Tn t) (Wd v) = tHas t v := by
  simp only [ref05_Has, Tn_1, Tn_2, ref02_xor, ref02_and, ref02_zero, tHas]
theorem meet_self (a b : BT) (o : Bool) : beqT TyT (bif o then (Tn (tMeet a b), true) else (Tn (0, 0), false)).1 (bif o then (Tn (tMeet a b), true) else (Tn (0, 0), false)).1 = true := by
  cases o <;> simp only [cond_true, cond_false, Tn_beq, beq_self_eq_true]
theorem pureTernTells : ∀ x : pdens (law05_TernTells.τs.map PTy.data), WfP law05_TernTells.τs x → ∃ n, law05_TernTells.g n x = some true := by
  rintro ⟨a, b, v, i, on⟩ ⟨ha, hb, hv, _⟩
  obtain ⟨a, rfl⟩ := Tn_wf ha
  obtain ⟨b, rfl⟩ := Tn_wf hb
  obtain ⟨v, rfl⟩ := Wd_wf hv
  refine ⟨200 + 140, ?_⟩
  show law05_TernTells (200 + 140) (Tn a) (Tn b) (Wd v) i on = some true
  unfold law05_TernTells
  have hl := bitsL_le (freeW a b) 128
  have q := equal_int_self (200 + 140) (tBits a b) (by unfold tBits; omega) (by unfold tBits; omega)
  simp only [tern_meet, ref05_meet, tern_has, ref05_has', tern_within, ref05_within, tern_bits _ (show 128 < 200 + 140 by omega), ref_bits _ (show 128 < 200 + 140 by omega), q, tern_clean, ref05_clean, tern_fix, ref05_fix, obind_some, meet_self, Tn_beq, beq_self_eq_true, cond_true, tern_awake]

theorem pureTernMeet : ∀ x : pdens (law05_TernMeet.τs.map PTy.data), WfP law05_TernMeet.τs x → ∃ n, law05_TernMeet.g n x = some true := by
  rintro ⟨a, b, v⟩ ⟨ha, hb, hv⟩
  obtain ⟨a, rfl⟩ := Tn_wf ha
  obtain ⟨b, rfl⟩ := Tn_wf hb
  obtain ⟨v, rfl⟩ := Wd_wf hv
  refine ⟨200 + 140, ?_⟩
  show law05_TernMeet (200 + 140) (Tn a) (Tn b) (Wd v) = some true
  unfold law05_TernMeet
  have h := tMeet_has a b v
  simp only [tern_meet, tern_has, obind_some]
  cases ho : tMeetOk a b <;> rw [ho] at h <;> simp only [cond_true, cond_false, Bool.true_and, Bool.false_and, beq_self_eq_true, show (false == true) = false from rfl, tern_has, obind_some, tern_awake] at h ⊢ <;>
    revert h <;> cases tHas a v <;> cases tHas b v <;> cases tHas (tMeet a b) v <;> simp

theorem pureTernWithin : ∀ x : pdens (law05_TernWithin.τs.map PTy.data), WfP law05_TernWithin.τs x → ∃ n, law05_TernWithin.g n x = some true := by
  rintro ⟨a, b, v⟩ ⟨ha, hb, hv⟩
  obtain ⟨a, rfl⟩ := Tn_wf ha
  obtain ⟨b, rfl⟩ := Tn_wf hb
  obtain ⟨v, rfl⟩ := Wd_wf hv
  refine ⟨200 + 140, ?_⟩
  show law05_TernWithin (200 + 140) (Tn a) (Tn b) (Wd v) = some true
  unfold law05_TernWithin
  have hp : tHas a (a.1 &&& a.2) = true := by
    rw [tHas_iff]
    intro i hi
    rw [BitVec.getLsbD_and, hi, Bool.and_true]
  simp only [tern_within, tern_has, tern_clean, tern_bits _ (show 128 < 200 + 140 by omega), obind_some, tern_awake, Tn_1, tClean]
  cases hw : tWithin a b with
  | true =>
    simp only [cond_true]
    cases hv : tHas a v with
    | false => rfl
    | true =>
      have : tHas b v = true := by
        rw [tWithin_iff] at hw
        rw [tHas_iff] at hv ⊢
        intro i hi
        rw [(hw i hi).2, hv i (hw i hi).1]
      rw [this]; rfl
  | false =>
    simp only [cond_false]
    cases hbx : tHas b (a.1 &&& a.2) with
    | false =>
      simp only [show (false == true) = false from rfl, cond_false, hp, beq_self_eq_true, cond_true, Bool.not_false]
    | true =>
      have hfree : (freeW a b == 0#128) = false := by
        cases hz : (freeW a b == 0#128) with
        | false => rfl
        | true =>
          exfalso
          have hz' : freeW a b = 0#128 := by simpa using hz
          rw [zero_iff] at hz'
          have : tWithin a b = true := by
            rw [tWithin_iff]
            intro i hi
            have h1 := hz' i
            unfold freeW at h1
            rw [BitVec.getLsbD_and, BitVec.getLsbD_not, hi, decide_eq_true (BitVec.lt_of_getLsbD hi)] at h1
            have h2 : a.2.getLsbD i = true := by simpa using h1
            rw [tHas_iff] at hbx
            have h3 := hbx i hi
            rw [BitVec.getLsbD_and, h2, Bool.and_true] at h3
            exact ⟨h2, h3⟩
          rw [hw] at this; cases this
      obtain ⟨j, hj, hfj⟩ := (nz_iff _).1 hfree
      have hne : tBits a b ≠ [] := List.ne_nil_of_mem (a := (j : Int)) (bitsL_mem.2 ⟨j, rfl, hj, hfj⟩)
      obtain ⟨x, l, hl⟩ := List.exists_cons_of_ne_nil hne
      obtain ⟨i, rfl, hi, hfi⟩ := bitsL_mem.1 (show x ∈ bitsL (freeW a b) 128 from by show x ∈ tBits a b; rw [hl]; exact List.mem_cons_self)
      have hlen : decide (((List.length (tBits a b) : Nat) : Int) > 0) = true := decide_eq_true (by rw [hl]; simp)
      have hin : inRange 0 (List.length (tBits a b)) = true := by rw [hl]; exact inRange_true (by omega) (by simp)
      have hg : List.getD (tBits a b) 0 0 = (i : Int) := by rw [hl]; rfl
      unfold freeW at hfi
      rw [BitVec.getLsbD_and, BitVec.getLsbD_not, decide_eq_true hi, Bool.true_and, Bool.and_eq_true] at hfi
      have hb2 := hfi.1
      have ha2 : a.2.getLsbD i = false := by simpa using hfi.2
      have q1 : tHas a ((a.1 &&& a.2) ^^^ bitW (i : Int)) = true := by
        rw [tHas_iff]
        intro k hk
        rw [BitVec.getLsbD_xor, BitVec.getLsbD_and, hk, Bool.and_true, bitW_bit]
        have : k ≠ i := fun h => by rw [h, ha2] at hk; cases hk
        simp [this]
      have q2 : tHas b ((a.1 &&& a.2) ^^^ bitW (i : Int)) = false := by
        cases h : tHas b ((a.1 &&& a.2) ^^^ bitW (i : Int)) with
        | false => rfl
        | true =>
          rw [tHas_iff] at h hbx
          have h1 := h i hb2
          have h2 := hbx i hb2
          rw [BitVec.getLsbD_xor, bitW_bit, ← h2] at h1
          simp [hi] at h1
      simp only [beq_self_eq_true, cond_true, hlen, hin, hg, wide_bit, obind_some, wide_xor, tern_has, q1, q2, Bool.not_false]

theorem pureTernFix : ∀ x : pdens (law05_TernFix.τs.map PTy.data), WfP law05_TernFix.τs x → ∃ n, law05_TernFix.g n x = some true := by
  rintro ⟨t, k, v⟩ ⟨ht, hk, hv⟩
  obtain ⟨t, rfl⟩ := Tn_wf ht
  obtain ⟨v, rfl⟩ := Wd_wf hv
  refine ⟨200 + 140, ?_⟩
  have main : ∀ k : Int, 0 ≤ k ∧ k ≤ 255 → law05_TernFix (200 + 140) (Tn t) k (Wd v) = some true := by
    intro k hk
    unfold law05_TernFix
    have hm : k.tmod 128 = k % 128 := Int.tmod_eq_emod_of_nonneg hk.1
    obtain ⟨i, hi, hil⟩ : ∃ i : Nat, k.tmod 128 = (i : Int) ∧ i < 128 := ⟨(k.tmod 128).toNat, by omega, by omega⟩
    have w1 : IntKind.wrap .i64 (k.tmod 128) = (i : Int) := by rw [hi]; exact w64 (by omega) (by omega)
    simp only [w1, tern_fix, tern_has, wide_has, Tn_2, hasB_nat, obind_some, tern_awake]
    have h1 : tHas (tFix t (i : Int) true) v = true → v.getLsbD i = true := fun h => ((tFix_has hil).1 h).2
    have h0 : tHas (tFix t (i : Int) false) v = true → v.getLsbD i = false := fun h => ((tFix_has hil).1 h).2
    have h2 : t.2.getLsbD i = false → tHas t v = (tHas (tFix t (i : Int) true) v || tHas (tFix t (i : Int) false) v) := by
      intro hti
      rw [Bool.eq_iff_iff, Bool.or_eq_true, tFix_has hil, tFix_has hil, tHas_iff]
      constructor
      · intro h
        cases hvi : v.getLsbD i with
        | true => exact .inl ⟨fun j _ hj => h j hj, rfl⟩
        | false => exact .inr ⟨fun j _ hj => h j hj, rfl⟩
      · intro h j hj
        have hne : j ≠ i := fun e => by rw [e, hti] at hj; cases hj
        rcases h with h | h <;> exact h.1 j hne hj
    revert h1 h0 h2
    cases tHas (tFix t (i : Int) true) v <;> cases tHas (tFix t (i : Int) false) v <;> cases v.getLsbD i <;> cases t.2.getLsbD i <;> cases tHas t v <;> simp
  exact main k (wf_u8.1 hk)
end Go.Fn
