/- The parts, as the document has them, and which of them have a header. -/
import Derived.Test.YtagpigbfbhdoiaaPCarve
namespace Go.Fn
open Go Go.Vi

theorem fixes_other (f : Nat) (t : BT) (j : Nat) (hj : j ≠ f) : ∀ (l : List Int) (c : Cu), (fixes f t l c).2 j = c j
  | [], _ => rfl
  | i :: l, c => by
    simp only [fixes]
    rw [fixes_other f t j hj l]
    unfold up
    rw [if_neg hj]
theorem tBits_mask {a a' b : BT} (h : a.2 = a'.2) : tBits a b = tBits a' b := by unfold tBits freeW; rw [h]

theorem ref07_inner (n : Nat) (a b : Cu) (f : Nat) (hf : f < 24) (l : List Int) (hl : l.length ≤ 128) (k0 : List (List TernI) → Int → List TernI → List TernI → List TernI → Option (List (List TernI))) :
    ∀ (suf pre : List Int) (m : Nat) (out : List (List TernI)) (c : Cu), l = pre ++ suf → suf.length < m → out.length + suf.length ≤ 100000 →
      ref07_List.l1 n (f : Int) l (cu a) (cu b) k0 m out ((pre.length : Nat) : Int) (cu c) = k0 (out ++ (fixes f (b f) suf c).1.map cu) ((f : Int) + 1) (cu a) (cu b) (cu (fixes f (b f) suf c).2)
  | [], pre, m + 1, out, c, h, _, _ => by
    have hlt : ¬ ((pre.length : Nat) : Int) < ((l.length : Nat) : Int) := by rw [h]; simp
    simp only [ref07_List.l1, ref07_List.s1, hlt, decide_false, cond_false, nx24 hf, fixes, List.map_nil, List.append_nil]
  | x :: suf, pre, m + 1, out, c, h, hm, ho => by
    have hlen : l.length = pre.length + suf.length + 1 := by rw [h]; simp; omega
    have hlt : ((pre.length : Nat) : Int) < ((l.length : Nat) : Int) := by omega
    have hin : inRange ((pre.length : Nat) : Int) l.length = true := inRange_true (by omega) hlt
    have hget : List.getD l pre.length 0 = x := by rw [h]; simp
    have hw : IntKind.wrap .i64 (((pre.length : Nat) : Int) + 1) = (((pre ++ [x]).length : Nat) : Int) := by
      rw [w64 (by omega) (by omega)]; simp
    simp only [List.length_cons] at ho hm
    have hc : ∀ y : List TernI, decide ((out.length + List.length ([y] : List (List TernI))) * 768 ≤ 140737488355328) = true := fun y => by
      rw [decide_eq_true_eq, List.length_cons, List.length_nil]; omega
    have ih := ref07_inner n a b f hf l hl k0 suf (pre ++ [x]) m (out ++ [cu (up c f (tFix (c f) x (!hasB (b f).1 x)))]) (up c f (tFix (c f) x (hasB (b f).1 x))) (by rw [h]; simp) (by omega) (by simp; omega)
    simp only [ref07_List.l1, ref07_List.s1, hlt, decide_true, cond_true, hin, Int.toNat_natCast, hget, cu_gn b hf, cu_gn c hf, Tn_1, ref02_has, obind_some, in24 hf, ref05_fix, up_set, hw, hc]
    rw [ih]
    simp only [fixes, List.map_cons, List.append_assoc, List.singleton_append]

theorem ref07_outer (n : Nat) (hn : 128 < n) (a b : Cu) : ∀ (k i m : Nat) (out : List (List TernI)) (c : Cu), i + k = 24 → k < m → (∀ j, i ≤ j → (c j).2 = (a j).2) → out.length + 128 * k ≤ 100000 →
    ref07_List.l0 n (cu a) (cu b) m out (i : Int) (cu c) = some (out ++ (fields b k i c).map cu)
  | 0, i, m + 1, out, c, hi, _, _, _ => by
    have : ¬ (i : Int) < 24 := by omega
    simp only [ref07_List.l0, ref07_List.s0, this, decide_false, cond_false, fields, List.map_nil, List.append_nil]
  | k + 1, i, m + 1, out, c, hi, hm, hc, ho => by
    have h24 : i < 24 := by omega
    have hb : (tBits (c i) (b i)).length ≤ 128 := bitsL_le _ _
    have hbits : tBits (a i) (b i) = tBits (c i) (b i) := tBits_mask (hc i (Nat.le_refl _)).symm
    simp only [ref07_List.l0, ref07_List.s0, lt24 h24, cond_true, in24 h24, cu_get b h24, cu_get a h24, ref_bits n hn, obind_some, hbits]
    have := ref07_inner n a b i h24 (tBits (c i) (b i)) hb (fun out'' f'' a_1'' b_1'' left'' => ref07_List.l0 n a_1'' b_1'' m out'' f'' left'') (tBits (c i) (b i)) [] n out c rfl (by omega) (by omega)
    rw [show (((([] : List Int).length : Nat)) : Int) = 0 from rfl] at this
    rw [this, show ((i : Int) + 1) = ((i + 1 : Nat) : Int) by omega]
    rw [ref07_outer n hn a b k (i + 1) m _ _ (by omega) (by omega) (fun j hj => by rw [fixes_other i (b i) j (by omega)]; exact hc j (by omega)) (by rw [List.length_append, List.length_map, fixes_length]; omega)]
    simp only [fields, List.map_append, List.append_assoc]

theorem ref07_list (n : Nat) (hn : 128 < n) (a b : Cu) : ref07_List n (cu a) (cu b) = some ((partsS a b).map cu) := by
  simp only [ref07_List, ref07_List.s, ref06_clean n (by omega), ref06_meet n (by omega), obind_some]
  unfold partsS
  cases cMeetOk a b with
  | true =>
    simp only [cond_true, Bool.not_true, cond_false]
    exact ref07_outer n hn a b 24 0 n [] (cClean a) rfl (by omega) (fun j _ => rfl) (by simp)
  | false => rfl

/-! ### which parts have a header -/
theorem up_has (c : Cu) (f : Nat) (hf : f < 24) (t : BT) (h : He) : cHas (up c f t) h = true ↔ (∀ j, j < 24 → j ≠ f → tHas (c j) (h j) = true) ∧ tHas t (h f) = true := by
  rw [cHas_iff]
  constructor
  · intro hh
    refine ⟨fun j hj hne => ?_, ?_⟩
    · have := hh j hj
      unfold up at this
      rwa [if_neg hne] at this
    · have := hh f hf
      unfold up at this
      rwa [if_pos rfl] at this
  · rintro ⟨h1, h2⟩ j hj
    unfold up
    by_cases e : j = f
    · rw [if_pos e, e]; exact h2
    · rw [if_neg e]; exact h1 j hj e
theorem up_fix_has (c : Cu) (f : Nat) (hf : f < 24) (i : Nat) (hi : i < 128) (hfree : (c f).2.getLsbD i = false) (on : Bool) (h : He) : cHas (up c f (tFix (c f) (i : Int) on)) h = true ↔ cHas c h = true ∧ (h f).getLsbD i = on := by
  rw [up_has c f hf, tFix_has hi, cHas_iff]
  constructor
  · rintro ⟨h1, h2, h3⟩
    refine ⟨fun j hj => ?_, h3⟩
    by_cases e : j = f
    · subst e
      rw [tHas_iff]
      intro b hb
      by_cases eb : b = i
      · subst eb; rw [hfree] at hb; cases hb
      · exact h2 b eb hb
    · exact h1 j hj e
  · rintro ⟨h1, h2⟩
    exact ⟨fun j hj _ => h1 j hj, fun b _ hb => tHas_iff.1 (h1 f hf) b hb, h2⟩

/-- The bits of a field that are told agree. -/
def agree (t : BT) (v : W128) (l : List Int) : Bool := l.all fun i => v.getLsbD i.toNat == t.1.getLsbD i.toNat

theorem fixes_has (f : Nat) (hf : f < 24) (t : BT) (h : He) : ∀ (l : List Int) (c : Cu), (∀ i ∈ l, ∃ j : Nat, i = (j : Int) ∧ j < 128 ∧ (c f).2.getLsbD j = false) → l.Nodup →
    (fixes f t l c).1.countP (fun c => cHas c h) = (bif cHas c h && !agree t (h f) l then 1 else 0) ∧ cHas (fixes f t l c).2 h = (cHas c h && agree t (h f) l)
  | [], c, _, _ => by simp [fixes, agree]
  | i :: l, c, hl, hn => by
    obtain ⟨j, rfl, hj, hfree⟩ := hl i (by simp)
    obtain ⟨hn1, hn2⟩ := List.nodup_cons.1 hn
    have hB : hasB t.1 ((j : Nat) : Int) = t.1.getLsbD j := hasB_nat _ _
    have ih := fixes_has f hf t h l (up c f (tFix (c f) (j : Int) (hasB t.1 (j : Int)))) (fun i hi => by
      obtain ⟨j', e, hj', hfr⟩ := hl i (by simp [hi])
      refine ⟨j', e, hj', ?_⟩
      unfold up
      rw [if_pos rfl]
      have hne : j' ≠ j := fun e' => hn1 (by rw [← e', ← e]; exact hi)
      unfold tFix
      simp only [BitVec.getLsbD_or, hfr, bitW_bit, hne, decide_false, Bool.false_and, Bool.or_false]) hn2
    have hp := up_fix_has c f hf j hj hfree (!hasB t.1 ((j : Nat) : Int)) h
    have hc := up_fix_has c f hf j hj hfree (hasB t.1 ((j : Nat) : Int)) h
    have hag : agree t (h f) ((j : Int) :: l) = (((h f).getLsbD j == t.1.getLsbD j) && agree t (h f) l) := by simp [agree]
    simp only [fixes, List.countP_cons]
    rw [hag, ih.1, ih.2]
    have hp' : cHas (up c f (tFix (c f) (j : Int) (!hasB t.1 (j : Int)))) h = (cHas c h && ((h f).getLsbD j == !(t.1.getLsbD j))) := by
      rw [Bool.eq_iff_iff, hp, Bool.and_eq_true, beq_iff_eq, hB]
    have hc' : cHas (up c f (tFix (c f) (j : Int) (hasB t.1 (j : Int)))) h = (cHas c h && ((h f).getLsbD j == t.1.getLsbD j)) := by
      rw [Bool.eq_iff_iff, hc, Bool.and_eq_true, beq_iff_eq, hB]
    rw [hp', hc']
    cases cHas c h <;> cases (h f).getLsbD j <;> cases t.1.getLsbD j <;> cases agree t (h f) l <;> simp

theorem bitsL_nodup (x : W128) (k : Nat) : (bitsL x k).Nodup := by
  unfold bitsL
  refine List.Pairwise.map _ (fun a b hab => ?_) (List.Pairwise.filter _ (List.pairwise_reverse.2 ((List.nodup_range (n := k)).imp fun h => h.symm)))
  omega
theorem tBits_free {a b : BT} : ∀ i ∈ tBits a b, ∃ j : Nat, i = (j : Int) ∧ j < 128 ∧ a.2.getLsbD j = false := by
  intro i hi
  obtain ⟨j, rfl, hj, hb⟩ := bitsL_mem.1 hi
  refine ⟨j, rfl, hj, ?_⟩
  unfold freeW at hb
  rw [BitVec.getLsbD_and, BitVec.getLsbD_not] at hb
  cases h : a.2.getLsbD j with
  | false => rfl
  | true => rw [h] at hb; simp at hb
def agreeAll (a b : Cu) (h : He) : Nat → Nat → Bool
  | 0, _ => true
  | k + 1, i => agree (b i) (h i) (tBits (a i) (b i)) && agreeAll a b h k (i + 1)
theorem agreeAll_congr (b : Cu) (h : He) {a a' : Cu} : ∀ (k i : Nat), (∀ j, i ≤ j → (a j).2 = (a' j).2) → agreeAll a b h k i = agreeAll a' b h k i
  | 0, _, _ => rfl
  | k + 1, i, hh => by
    simp only [agreeAll]
    rw [tBits_mask (hh i (Nat.le_refl _)), agreeAll_congr b h k (i + 1) (fun j hj => hh j (by omega))]
theorem fields_has (b : Cu) (h : He) : ∀ (k i : Nat) (c : Cu), i + k = 24 → (fields b k i c).countP (fun c => cHas c h) = (bif cHas c h && !agreeAll c b h k i then 1 else 0)
  | 0, _, _, _ => by simp [fields, agreeAll]
  | k + 1, i, c, hi => by
    obtain ⟨h1, h2⟩ := fixes_has i (by omega) (b i) h (tBits (c i) (b i)) c (fun i hi => tBits_free i hi) (bitsL_nodup _ _)
    simp only [fields, List.countP_append, agreeAll]
    rw [h1, fields_has b h k (i + 1) _ (by omega), h2]
    rw [agreeAll_congr b h (a := (fixes i (b i) (tBits (c i) (b i)) c).2) (a' := c) k (i + 1) (fun j hj => by rw [fixes_other i (b i) j (by omega)])]
    cases cHas c h <;> cases agree (b i) (h i) (tBits (c i) (b i)) <;> cases agreeAll c b h k (i + 1) <;> rfl
theorem agreeAll_iff (a b : Cu) (h : He) : ∀ (k i : Nat), agreeAll a b h k i = true ↔ ∀ j, i ≤ j → j < i + k → ∀ q, (b j).2.getLsbD q = true → (a j).2.getLsbD q = false → (h j).getLsbD q = (b j).1.getLsbD q
  | 0, i => ⟨fun _ j h1 h2 => by omega, fun _ => rfl⟩
  | k + 1, i => by
    simp only [agreeAll, Bool.and_eq_true]
    rw [agreeAll_iff a b h k (i + 1)]
    have e : agree (b i) (h i) (tBits (a i) (b i)) = true ↔ ∀ q, (b i).2.getLsbD q = true → (a i).2.getLsbD q = false → (h i).getLsbD q = (b i).1.getLsbD q := by
      unfold agree
      rw [List.all_eq_true]
      constructor
      · intro hh q hq1 hq2
        have hq : q < 128 := by
          rcases Nat.lt_or_ge q 128 with h | h
          · exact h
          · rw [BitVec.getLsbD_of_ge _ _ h] at hq1; cases hq1
        have := hh ((q : Nat) : Int) (bitsL_mem.2 ⟨q, rfl, hq, by
          unfold freeW
          rw [BitVec.getLsbD_and, BitVec.getLsbD_not, hq1, hq2]
          simp [hq]⟩)
        simpa using this
      · intro hh i' hi'
        obtain ⟨q, rfl, hq, hb⟩ := bitsL_mem.1 hi'
        unfold freeW at hb
        rw [BitVec.getLsbD_and, BitVec.getLsbD_not] at hb
        simp only [Bool.and_eq_true, Bool.not_eq_true', decide_eq_true_eq] at hb
        have := hh q hb.1 hb.2.2
        simpa using this
    rw [e]
    constructor
    · rintro ⟨h1, h2⟩ j hj1 hj2
      by_cases ej : j = i
      · subst ej; exact h1
      · exact h2 j (by omega) (by omega)
    · intro hh
      exact ⟨hh i (Nat.le_refl _) (by omega), fun j hj1 hj2 => hh j (by omega) (by omega)⟩
theorem clean_has (a : Cu) (h : He) : cHas (cClean a) h = cHas a h := by
  refine allN_congr fun j _ => ?_
  rw [Bool.eq_iff_iff, tHas_iff, tHas_iff]
  unfold cClean tClean
  refine forall_congr' fun i => ?_
  rw [BitVec.getLsbD_and]
  cases (a j).2.getLsbD i <;> simp

theorem partsS_count (a b : Cu) (h : He) : (partsS a b).countP (fun c => cHas c h) = (bif cHas a h && !cHas b h then 1 else 0) := by
  unfold partsS
  cases hm : cMeetOk a b with
  | true =>
    rw [cond_true, fields_has b h 24 0 (cClean a) rfl, clean_has]
    cases ha : cHas a h with
    | false => rfl
    | true =>
      have : agreeAll (cClean a) b h 24 0 = cHas b h := by
        rw [Bool.eq_iff_iff, agreeAll_iff, cHas_iff]
        have ha' := cHas_iff.1 ha
        have hm' := allN_iff.1 hm
        constructor
        · intro hh j hj
          rw [tHas_iff]
          intro q hq
          cases haq : (a j).2.getLsbD q with
          | true =>
            have h1 := tHas_iff.1 (ha' j hj) q haq
            have h2 := tMeetOk_iff.1 (hm' j hj) q haq hq
            rw [← h2, h1]
          | false => exact (hh j (Nat.zero_le _) (by omega) q hq haq).symm
        · intro hh j _ hj q hq _
          exact (tHas_iff.1 (hh j (by omega)) q hq).symm
      rw [this]
  | false =>
    have := cMeet_has a b h
    rw [hm] at this
    have e : List.countP (fun c => cHas c h) [cClean a] = bif cHas a h then 1 else 0 := by
      rw [List.countP_cons, List.countP_nil, clean_has]
      cases cHas a h <;> rfl
    rw [cond_false, e]
    revert this
    cases cHas a h <;> cases cHas b h <;> intro this <;> first | rfl | cases this

end Go.Fn
