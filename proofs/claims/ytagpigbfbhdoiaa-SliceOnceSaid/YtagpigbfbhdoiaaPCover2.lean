/- The search: the code's and the document's are the same. -/
import Derived.Test.YtagpigbfbhdoiaaPCover
namespace Go.Fn
open Go Go.Vi

/-- What the document does behind its first loop. -/
def refTail (n : Nat) (rec : Cube → List Cube → Int → Bool → Option (Header × Bool × Int)) (c : Cu) (l : List Cu) (left : Int) (free : Bool) (first : Int) : Option (Header × Bool × Int) :=
  bif decide (first < 0) then some (hd (cPick c), true, left) else
  bif inRange first l.length then
    obind (ref07_List n (cu c) (List.getD (l.map cu) (Int.toNat first) (List.replicate 24 ((0, 0), 0, 0)))) fun r => ref08_look.l1 n rec (l.map cu) free first r (List.replicate 24 (0, 0)) n left 0
  else none

theorem ref08_loop (n : Nat) (hn : 24 < n) (rec : Cube → List Cube → Int → Bool → Option (Header × Bool × Int)) (c : Cu) (l : List Cu) (left : Int) (free : Bool) (hL : l.length ≤ 4611686018427387904) : ∀ (suf pre : List Cu) (m : Nat) (first : Int), l = pre ++ suf → suf.length < m →
    ref08_look.l0 n rec (l.map cu) left free (cu c) (List.replicate 24 (0, 0)) m first ((pre.length : Nat) : Int) =
      bif suf.any (cWithin c) then some (hd (fun _ => 0), false, left) else refTail n rec c l left free (bif decide (first < 0) then (bif decide (idxS c suf pre.length < 0) then first else idxS c suf pre.length) else first)
  | [], pre, m + 1, first, he, _ => by
    have hlt : ¬ ((pre.length : Nat) : Int) < ((l.length : Nat) : Int) := by rw [he]; simp
    have e : (bif decide (first < 0) then (bif decide (idxS c [] pre.length < 0) then first else idxS c [] pre.length) else first) = first := by
      show (bif decide (first < 0) then first else first) = first
      cases decide (first < 0) <;> rfl
    rw [e]
    simp only [ref08_look.l0, ref08_look.s0, List.length_map, hlt, decide_false, cond_false, List.any_nil, ref06_pick n hn, obind_some, refTail]
  | x :: suf, pre, m + 1, first, he, hm => by
    have hlen : l.length = pre.length + suf.length + 1 := by rw [he]; simp; omega
    have hlt : ((pre.length : Nat) : Int) < ((l.length : Nat) : Int) := by omega
    have hin : inRange ((pre.length : Nat) : Int) l.length = true := inRange_true (by omega) hlt
    have hg : List.getD (l.map cu) pre.length (List.replicate 24 ((0, 0), 0, 0)) = cu x := by rw [he]; exact cus_get pre x suf
    have hw : IntKind.wrap .i64 (((pre.length : Nat) : Int) + 1) = (((pre ++ [x]).length : Nat) : Int) := by rw [w64 (by omega) (by omega)]; simp
    simp only [List.length_cons] at hm
    have ih := fun first' => ref08_loop n hn rec c l left free hL suf (pre ++ [x]) m first' (by rw [he]; simp) (by omega)
    have hi1 : (pre ++ [x]).length = pre.length + 1 := by simp
    simp only [ref08_look.l0, ref08_look.s0, List.length_map, hlt, decide_true, cond_true, hin, Int.toNat_natCast, hg, ref06_meet n hn, ref06_within n hn, obind_some, hw, List.any_cons, idxS]
    rcases (Bool.eq_false_or_eq_true (cWithin c x)).symm with hwi | hwi
    · rcases (Bool.eq_false_or_eq_true (cMeetOk c x)).symm with hme | hme
      · have := ih first
        rw [hi1] at this
        simp only [hme, hwi, Bool.false_or, cond_false, hi1, show (false == true) = false from rfl]
        exact this
      · have hpos : decide (((pre.length : Nat) : Int) < 0) = false := by rw [decide_eq_false_iff_not]; omega
        simp only [hme, hwi, Bool.false_or, cond_false, cond_true, show (true == true) = true from rfl, hpos]
        cases hf : decide (first < 0) with
        | true =>
          have := ih ((pre.length : Nat) : Int)
          rw [hi1, hpos] at this
          simp only [cond_true, cond_false, hi1]
          exact this
        | false =>
          have := ih first
          rw [hi1, hf] at this
          simp only [cond_false, hi1]
          exact this
    · simp only [hwi, Bool.true_or, cond_true, hd_zero']

theorem ploop_code (n : Nat) (rec : Look → Cube → List Cube → Option (Look × Header × Bool × Bool)) (l : List Cu) (i : Nat) (hi : i + 1 ≤ l.length) (hL : l.length ≤ 4611686018427387904) (free : Bool) (v6 : Header) (f : Cu → Int → He × Bool × Int) (B : Int) (hm' : ∀ p left, 0 ≤ left → (f p left).2.2 ≤ left)
    (hf : ∀ p left, 0 ≤ left → left ≤ B → rec (left, free) (cu p) ((l.drop (i + 1)).map cu) = some (((f p left).2.2, free), hd (f p left).1, (f p left).2.1, decide (0 ≤ (f p left).2.2)))
    (hz : ∀ p left, 0 ≤ left → (f p left).2.1 = false → (f p left).1 = fun _ => 0) :
    ∀ (ps : List Cu) (left : Int), 0 ≤ left → left ≤ B → cover_look_at.l0 n rec (l.map cu) v6 (i : Int) (ps.map cu) (left, free) (hd fun _ => 0) false true = some (((ploop f ps left).2.2, free), hd (ploop f ps left).1, (ploop f ps left).2.1, decide (0 ≤ (ploop f ps left).2.2))
  | [], left, h0, hB => by
    simp only [List.map_nil, cover_look_at.l0, cover_look_at.z0, ploop, h0, decide_true]
  | p :: ps, left, h0, hB => by
    have hw : IntKind.wrap .i64 ((i : Int) + 1) = ((i + 1 : Nat) : Int) := by rw [w64 (by omega) (by omega)]; omega
    have hc : (decide (0 ≤ ((i + 1 : Nat) : Int)) && decide (((i + 1 : Nat) : Int) ≤ (((l.map cu).length : Nat) : Int))) = true := by
      rw [List.length_map]; simp only [Bool.and_eq_true, decide_eq_true_eq]; omega
    simp only [List.map_cons, cover_look_at.l0, cover_look_at.s0, hw, hc, cond_true, Int.toNat_natCast, ← List.map_drop, hf p left h0 hB, obind_some, ploop]
    rcases Bool.eq_false_or_eq_true (f p left).2.1 with hb | hb
    · simp only [hb, Bool.true_or, cond_true, show (true == false) = false from rfl, cond_false]
    · simp only [hb, beq_self_eq_true, cond_true, Bool.false_or]
      by_cases hl : (f p left).2.2 < 0
      · simp only [hl, decide_true, cond_true, decide_eq_false (show ¬ 0 ≤ (f p left).2.2 by omega), Bool.not_false, hb]
      · simp only [decide_eq_false hl, cond_false, decide_eq_true (show 0 ≤ (f p left).2.2 by omega), Bool.not_true]
        rw [hz p left h0 hb]
        exact ploop_code n rec l i hi hL free v6 f B hm' hf hz ps _ (by omega) (Int.le_trans (hm' p left h0) hB)

theorem ploop_ref (n : Nat) (rec : Cube → List Cube → Int → Bool → Option (Header × Bool × Int)) (l : List Cu) (i : Nat) (hi : i + 1 ≤ l.length) (hL : l.length ≤ 4611686018427387904) (free : Bool) (v6 : Header) (f : Cu → Int → He × Bool × Int) (B : Int) (hm' : ∀ p left, 0 ≤ left → (f p left).2.2 ≤ left) (P : List Cu) (hP : P.length ≤ 100000)
    (hf : ∀ p left, 0 ≤ left → left ≤ B → rec (cu p) ((l.drop (i + 1)).map cu) left free = some (hd (f p left).1, (f p left).2.1, (f p left).2.2)) :
    ∀ (suf pre : List Cu) (m : Nat) (left : Int), P = pre ++ suf → suf.length < m → 0 ≤ left → left ≤ B → ref08_look.l1 n rec (l.map cu) free (i : Int) (P.map cu) v6 m left ((pre.length : Nat) : Int) = some (hd (ploop f suf left).1, (ploop f suf left).2.1, (ploop f suf left).2.2)
  | [], pre, m + 1, left, he, _, _, _ => by
    have hlt : ¬ ((pre.length : Nat) : Int) < ((P.length : Nat) : Int) := by rw [he]; simp
    simp only [ref08_look.l1, ref08_look.s1, List.length_map, hlt, decide_false, cond_false, ploop, hd_zero']
  | p :: suf, pre, m + 1, left, he, hm, h0, hB => by
    have hw : IntKind.wrap .i64 ((i : Int) + 1) = ((i + 1 : Nat) : Int) := by rw [w64 (by omega) (by omega)]; omega
    have hc : (decide (0 ≤ ((i + 1 : Nat) : Int)) && decide (((i + 1 : Nat) : Int) ≤ (((l.map cu).length : Nat) : Int))) = true := by
      rw [List.length_map]; simp only [Bool.and_eq_true, decide_eq_true_eq]; omega
    have hlen : P.length = pre.length + suf.length + 1 := by rw [he]; simp; omega
    have hlt : ((pre.length : Nat) : Int) < ((P.length : Nat) : Int) := by omega
    have hin : inRange ((pre.length : Nat) : Int) P.length = true := inRange_true (by omega) hlt
    have hg : List.getD (P.map cu) pre.length (List.replicate 24 ((0, 0), 0, 0)) = cu p := by rw [he]; exact cus_get pre p suf
    have hw2 : IntKind.wrap .i64 (((pre.length : Nat) : Int) + 1) = (((pre ++ [p]).length : Nat) : Int) := by rw [w64 (by omega) (by omega)]; simp
    simp only [List.length_cons] at hm
    simp only [List.length_map] at hc
    simp only [ref08_look.l1, ref08_look.s1, List.length_map, hlt, decide_true, hin, hg, hw, hw2, hc, cond_true, Int.toNat_natCast, ← List.map_drop, hf p left h0 hB, obind_some, ploop]
    rcases Bool.eq_false_or_eq_true (f p left).2.1 with hb | hb
    · simp only [hb, Bool.true_or, cond_true, show (true == false) = false from rfl, cond_false]
    · simp only [hb, beq_self_eq_true, cond_true, Bool.false_or]
      by_cases hl : (f p left).2.2 < 0
      · simp only [hl, decide_true, cond_true, hb]
      · simp only [decide_eq_false hl, cond_false]
        exact ploop_ref n rec l i hi hL free v6 f B hm' P hP hf suf (pre ++ [p]) m _ (by rw [he]; simp) (by omega) (by omega) (Int.le_trans (hm' p left h0) hB)

theorem ploop_facts (f : Cu → Int → He × Bool × Int) (hf : ∀ p left, 0 ≤ left → -1 ≤ (f p left).2.2 ∧ (f p left).2.2 ≤ left ∧ ((f p left).2.1 = false → (f p left).1 = fun _ => 0) ∧ ((f p left).2.1 = true → 0 ≤ (f p left).2.2)) :
    ∀ (ps : List Cu) (left : Int), 0 ≤ left → -1 ≤ (ploop f ps left).2.2 ∧ (ploop f ps left).2.2 ≤ left ∧ ((ploop f ps left).2.1 = false → (ploop f ps left).1 = fun _ => 0) ∧ ((ploop f ps left).2.1 = true → 0 ≤ (ploop f ps left).2.2)
  | [], left, h0 => ⟨by show -1 ≤ left; omega, Int.le_refl _, fun _ => rfl, fun h => by cases h⟩
  | p :: ps, left, h0 => by
    have h := hf p left h0
    unfold ploop
    rcases Bool.eq_false_or_eq_true ((f p left).2.1 || decide ((f p left).2.2 < 0)) with hb | hb
    · rw [hb]; exact h
    · rw [hb]
      have : ¬ (f p left).2.2 < 0 := by simp at hb; omega
      obtain ⟨g1, g2, g3, g4⟩ := ploop_facts f hf ps (f p left).2.2 (by omega)
      exact ⟨g1, Int.le_trans g2 h.2.1, g3, g4⟩
theorem lookS_facts (free : Bool) : ∀ (k : Nat) (c : Cu) (l : List Cu) (left : Int), 0 ≤ left → -1 ≤ (lookS free k c l left).2.2 ∧ (lookS free k c l left).2.2 ≤ left ∧ ((lookS free k c l left).2.1 = false → (lookS free k c l left).1 = fun _ => 0) ∧ ((lookS free k c l left).2.1 = true → 0 ≤ (lookS free k c l left).2.2)
  | 0, c, l, left, h0 => ⟨by show -1 ≤ left; omega, Int.le_refl _, fun _ => rfl, fun h => by cases h⟩
  | k + 1, c, l, left, h0 => by
    unfold lookS
    rcases Bool.eq_false_or_eq_true (!free && decide (left < 1)) with hb | hb
    · rw [hb]; exact ⟨by show (-1 : Int) ≤ -1; omega, by show -1 ≤ left; omega, fun _ => rfl, fun h => by cases h⟩
    · rw [hb]
      have hl : 0 ≤ (bif free then left else left - 1) ∧ (bif free then left else left - 1) ≤ left := by
        cases free with
        | true => exact ⟨h0, Int.le_refl _⟩
        | false => simp at hb; simp only [cond_false]; omega
      simp only [cond_false]
      generalize (bif free then left else left - 1) = left' at hl
      cases l.any (cWithin c) with
      | true => exact ⟨by show -1 ≤ left'; omega, hl.2, fun _ => rfl, fun h => by cases h⟩
      | false =>
        simp only [cond_false]
        cases firstS c l with
        | none => exact ⟨by show -1 ≤ left'; omega, hl.2, fun h => (by cases h), fun _ => hl.1⟩
        | some y =>
          obtain ⟨g1, g2, g3, g4⟩ := ploop_facts (fun p left => lookS free k p y.2 left) (fun p left h => lookS_facts free k p y.2 left h) (partsS c y.1) left' hl.1
          exact ⟨g1, Int.le_trans g2 hl.2, g3, g4⟩

theorem look_code (n : Nat) (hn : 4000 ≤ n) (free : Bool) : ∀ (k : Nat) (c : Cu) (l : List Cu) (left : Int), l.length < k → l.length < n → l.length ≤ 4611686018427387904 → 0 ≤ left → left ≤ 9223372036854775807 →
    cover_look_at n k (left, free) (cu c) (l.map cu) = some (((lookS free k c l left).2.2, free), hd (lookS free k c l left).1, (lookS free k c l left).2.1, decide (0 ≤ (lookS free k c l left).2.2))
  | k + 1, c, l, left, hk, hln, hL, h0, h1 => by
    have hpay : cover_purse_pay (left, free) = some ((bif free then left else left - 1, free), !(!free && decide (left < 1))) := by
      unfold cover_purse_pay
      cases free with
      | true => rfl
      | false =>
        simp only [cond_false, Bool.not_false, Bool.true_and]
        rw [w64 (n := left - 1) (by omega) (by omega)]
        congr 2
        by_cases h : left < 1
        · rw [decide_eq_true h, decide_eq_false (show ¬ left - 1 ≥ 0 by omega)]; rfl
        · rw [decide_eq_false h, decide_eq_true (show left - 1 ≥ 0 by omega)]; rfl
    simp only [cover_look_at, cover_look_at.s, hpay, obind_some, Bool.not_not]
    unfold lookS
    rcases Bool.eq_false_or_eq_true (!free && decide (left < 1)) with hb | hb
    · simp only [hb, cond_true]
      have : (bif free then left else left - 1) = -1 := by
        cases free with
        | true => simp at hb
        | false => simp at hb; simp only [cond_false]; omega
      rw [this, hd_zero']; rfl
    · simp only [hb, cond_false]
      have hl : 0 ≤ (bif free then left else left - 1) ∧ (bif free then left else left - 1) ≤ left := by
        cases free with
        | true => exact ⟨h0, Int.le_refl _⟩
        | false => simp at hb; simp only [cond_false]; omega
      generalize (bif free then left else left - 1) = left' at hl
      obtain ⟨a1, a2⟩ := cover_among_eq n (by omega) c l hL hln
      rcases Bool.eq_false_or_eq_true (l.any (cWithin c)) with ha | ha
      · obtain ⟨j, hj⟩ := a1 ha
        simp only [hj, obind_some, ha, cond_true, hd_zero', hl.1, decide_true]
      · simp only [a2 ha, obind_some, ha, cond_false]
        rcases idxS_first c l 0 with ⟨i1, i2⟩ | ⟨pre, x, suf, i1, i2, i3⟩
        · simp only [i1, i2, show (-1 : Int) < 0 from by decide, decide_true, cond_true, cube_pick n (by omega), obind_some, hl.1]
        · have hlen : l.length = pre.length + suf.length + 1 := by rw [i1]; simp; omega
          have hlt : ((pre.length : Nat) : Int) < ((l.length : Nat) : Int) := by omega
          have hin : inRange ((pre.length : Nat) : Int) (l.map cu).length = true := inRange_true (by omega) (by rw [List.length_map]; exact hlt)
          have hg : List.getD (l.map cu) pre.length (List.replicate 24 ((0, 0), 0, 0)) = cu x := by rw [i1]; exact cus_get pre x suf
          rw [Nat.zero_add] at i2
          simp only [i2, i3, decide_eq_false (show ¬ ((pre.length : Nat) : Int) < 0 by omega), cond_false, hin, cond_true, Int.toNat_natCast, hg, carve_parts n (by omega), obind_some]
          have hd : l.drop (pre.length + 1) = suf := by rw [i1]; simp
          have := ploop_code n (cover_look_at n k) l pre.length (by omega) hL free (List.replicate 24 (0, 0)) (fun p left => lookS free k p suf left) 9223372036854775807 (fun p left h => (lookS_facts free k p suf left h).2.1)
            (fun p left h h' => by rw [hd]; exact look_code n hn free k p suf left (by omega) (by omega) (by omega) h h') (fun p left h => (lookS_facts free k p suf left h).2.2.1) (partsS c x) left' hl.1 (by omega)
          rw [hd_zero] at this
          exact this

theorem look_ref (n : Nat) (hn : 4000 ≤ n) (free : Bool) : ∀ (k : Nat) (c : Cu) (l : List Cu) (left : Int), l.length < k → l.length < n → l.length ≤ 4611686018427387904 → 0 ≤ left → left ≤ 9223372036854775807 →
    ref08_look n k (cu c) (l.map cu) left free = some (hd (lookS free k c l left).1, (lookS free k c l left).2.1, (lookS free k c l left).2.2)
  | k + 1, c, l, left, hk, hln, hL, h0, h1 => by
    have hpay : ∀ k0 : List Cube → Int → Bool → Int → Int → Cube → Header → Option (Header × Bool × Int), ref08_look.s n (ref08_look n k) k0 (cu c) (l.map cu) left free = bif !free && decide (left < 1) then some (hd (fun _ => 0), false, -1) else k0 (l.map cu) (bif free then left else left - 1) free (-1) 0 (cu c) (List.replicate 24 (0, 0)) := by
      intro k0
      unfold ref08_look.s
      cases free with
      | true => rfl
      | false =>
        simp only [Bool.not_false, Bool.true_and, beq_self_eq_true, cond_true, cond_false]
        rw [w64 (n := left - 1) (by omega) (by omega), hd_zero']
    rw [ref08_look, hpay]
    unfold lookS
    rcases Bool.eq_false_or_eq_true (!free && decide (left < 1)) with hb | hb
    · simp only [hb, cond_true]
    · simp only [hb, cond_false]
      have hl : 0 ≤ (bif free then left else left - 1) ∧ (bif free then left else left - 1) ≤ left := by
        cases free with
        | true => exact ⟨h0, Int.le_refl _⟩
        | false => simp at hb; simp only [cond_false]; omega
      generalize (bif free then left else left - 1) = left' at hl
      have hloop := ref08_loop n (by omega) (ref08_look n k) c l left' free hL l [] n (-1) rfl hln
      rw [show ((([] : List Cu).length : Nat) : Int) = 0 from rfl] at hloop
      rw [hloop]
      rcases Bool.eq_false_or_eq_true (l.any (cWithin c)) with ha | ha
      · simp only [ha, cond_true]
      · simp only [ha, cond_false, show decide ((-1 : Int) < 0) = true from rfl, cond_true]
        rcases idxS_first c l 0 with ⟨i1, i2⟩ | ⟨pre, x, suf, i1, i2, i3⟩
        · have e : (bif decide (idxS c l ([] : List Cu).length < 0) then (-1 : Int) else idxS c l ([] : List Cu).length) = -1 := by
            show (bif decide (idxS c l 0 < 0) then (-1 : Int) else idxS c l 0) = -1
            rw [i1]; rfl
          rw [e, i2]; rfl
        · have hlen : l.length = pre.length + suf.length + 1 := by rw [i1]; simp; omega
          have hlt : ((pre.length : Nat) : Int) < ((l.length : Nat) : Int) := by omega
          have hin : inRange ((pre.length : Nat) : Int) l.length = true := inRange_true (by omega) hlt
          have hg : List.getD (l.map cu) pre.length (List.replicate 24 ((0, 0), 0, 0)) = cu x := by rw [i1]; exact cus_get pre x suf
          rw [Nat.zero_add] at i2
          have e : (bif decide (idxS c l ([] : List Cu).length < 0) then (-1 : Int) else idxS c l ([] : List Cu).length) = ((pre.length : Nat) : Int) := by
            show (bif decide (idxS c l 0 < 0) then (-1 : Int) else idxS c l 0) = _
            rw [i2, decide_eq_false (show ¬ ((pre.length : Nat) : Int) < 0 by omega)]; rfl
          rw [e]
          simp only [refTail, i3, decide_eq_false (show ¬ ((pre.length : Nat) : Int) < 0 by omega), cond_false, hin, cond_true, Int.toNat_natCast, hg, ref07_list n (by omega), obind_some]
          have hd : l.drop (pre.length + 1) = suf := by rw [i1]; simp
          have hP := partsS_length c x
          have := ploop_ref n (ref08_look n k) l pre.length (by omega) hL free (List.replicate 24 (0, 0)) (fun p left => lookS free k p suf left) 9223372036854775807 (fun p left h => (lookS_facts free k p suf left h).2.1) (partsS c x) (by omega)
            (fun p left h h' => by rw [hd]; exact look_ref n hn free k p suf left (by omega) (by omega) (by omega) h h') (partsS c x) [] n left' rfl (by omega) hl.1 (by omega)
          exact this
end Go.Fn
