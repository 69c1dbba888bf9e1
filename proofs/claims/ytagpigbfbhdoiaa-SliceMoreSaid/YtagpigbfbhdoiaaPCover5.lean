/- With as many steps as are enough there is an answer, and it is the same with more. -/
import Derived.Test.YtagpigbfbhdoiaaPCover4
namespace Go.Fn
open Go Go.Vi

def prodS : List Cu → Nat
  | [] => 1
  | x :: l => Nat.max (cSize x) 1 * prodS l
def bndL (l : List Cu) : Nat := (l.length + 1) * prodS l
theorem prodS_pos : ∀ l, 1 ≤ prodS l
  | [] => Nat.le_refl _
  | x :: l => Nat.mul_le_mul (Nat.le_max_right (cSize x) 1) (prodS_pos l)
theorem prodS_sub {a b : List Cu} (h : List.Sublist a b) : prodS a ≤ prodS b := by
  induction h with
  | slnil => exact Nat.le_refl _
  | cons x _ ih => exact Nat.le_trans ih (Nat.le_mul_of_pos_left _ (Nat.le_max_right (cSize x) 1))
  | cons_cons x _ ih => exact Nat.mul_le_mul_left _ ih
theorem bndL_sub {a b : List Cu} (h : List.Sublist a b) : bndL a ≤ bndL b := Nat.mul_le_mul (Nat.succ_le_succ h.length_le) (prodS_sub h)
theorem bndL_pos (l : List Cu) : 1 ≤ bndL l := Nat.mul_le_mul (Nat.succ_le_succ (Nat.zero_le _)) (prodS_pos l)

theorem tBits_length (a b : BT) : (tBits a b).length ≤ cnt b.2 := by
  unfold tBits cnt
  rw [bitsL_length]
  refine List.countP_mono_left fun i _ h => ?_
  unfold freeW at h
  rw [BitVec.getLsbD_and, Bool.and_eq_true] at h
  exact h.1
theorem fields_size (b : Cu) : ∀ (k i : Nat) (c : Cu), (fields b k i c).length + cSizeTo b i ≤ cSizeTo b (i + k)
  | 0, i, c => by simp [fields]
  | k + 1, i, c => by
    have h1 := tBits_length (c i) (b i)
    have h2 := fields_size b k (i + 1) (fixes i (b i) (tBits (c i) (b i)) c).2
    have h3 : cSizeTo b (i + 1) = cSizeTo b i + cnt (b i).2 := rfl
    rw [show i + 1 + k = i + (k + 1) by omega] at h2
    simp only [fields, List.length_append, fixes_length]
    omega
theorem partsS_size {a b : Cu} (hm : cMeetOk a b = true) : (partsS a b).length ≤ cSize b := by
  unfold partsS cSize
  rw [hm, cond_true]
  have := fields_size b 24 0 (cClean a)
  simp only [Nat.zero_add] at this
  omega
theorem filter_sub {p q : Cu → Bool} (h : ∀ x, p x = true → q x = true) : ∀ l : List Cu, List.Sublist (l.filter p) (l.filter q)
  | [] => .slnil
  | x :: l => by
    rw [List.filter_cons, List.filter_cons]
    cases hp : p x with
    | true => rw [h x hp]; exact (filter_sub h l).cons_cons x
    | false =>
      cases q x with
      | true => exact (filter_sub h l).cons x
      | false => exact filter_sub h l
theorem part_meets {c x p : Cu} (hp : p ∈ partsS c x) (suf : List Cu) : bndL (meetsS p suf) ≤ bndL (meetsS c suf) :=
  bndL_sub (filter_sub (fun y hy => by
    obtain ⟨h, h1, h2⟩ := meet_ex hy
    exact meet_of (part_in hp h1).1 h2) suf)

def Same (N : Nat) (left left' : Int) (r r' : He × Bool × Int) : Prop := r.1 = r'.1 ∧ r.2.1 = r'.2.1 ∧ left - N ≤ r.2.2 ∧ left' - N ≤ r'.2.2
theorem ploop_enough (f : Cu → Int → He × Bool × Int) (N : Nat) : ∀ (ps : List Cu) (left left' : Int), (∀ p ∈ ps, ∀ left left' : Int, (N : Int) ≤ left → (N : Int) ≤ left' → Same N left left' (f p left) (f p left')) →
    ((ps.length * N : Nat) : Int) ≤ left → ((ps.length * N : Nat) : Int) ≤ left' → Same (ps.length * N) left left' (ploop f ps left) (ploop f ps left')
  | [], left, left', _, _, _ => by
    refine ⟨rfl, rfl, ?_, ?_⟩ <;> simp [ploop]
  | p :: ps, left, left', hf, h1, h2 => by
    have e : (p :: ps).length * N = ps.length * N + N := by rw [List.length_cons, Nat.succ_mul]
    rw [e] at h1 h2 ⊢
    obtain ⟨g1, g2, g3, g4⟩ := hf p (by simp) left left' (by omega) (by omega)
    have n1 : decide ((f p left).2.2 < 0) = false := by rw [decide_eq_false_iff_not]; omega
    have n2 : decide ((f p left').2.2 < 0) = false := by rw [decide_eq_false_iff_not]; omega
    unfold ploop
    rw [n1, n2, Bool.or_false, Bool.or_false, ← g2]
    cases hb : (f p left).2.1 with
    | true => exact ⟨g1, g2, by simp only [cond_true]; omega, by simp only [cond_true]; omega⟩
    | false =>
      obtain ⟨k1, k2, k3, k4⟩ := ploop_enough f N ps (f p left).2.2 (f p left').2.2 (fun q hq => hf q (by simp [hq])) (by omega) (by omega)
      exact ⟨k1, k2, by simp only [cond_false]; omega, by simp only [cond_false]; omega⟩

theorem step_bound {s t m P N : Nat} (hs : s ≤ t) (ht : 1 ≤ t) (hP : 1 ≤ P) (hN : N = (m + 1) * P) : s * N + 1 ≤ (m + 1 + 1) * (t * P) := by
  have h1 : s * N ≤ (m + 1) * (t * P) := by
    rw [hN, show (m + 1) * (t * P) = t * ((m + 1) * P) by rw [Nat.mul_left_comm]]
    exact Nat.mul_le_mul_right _ hs
  have h2 : 1 ≤ t * P := Nat.mul_le_mul ht hP
  rw [Nat.succ_mul]
  omega
theorem lookS_enough : ∀ (k : Nat) (c : Cu) (l : List Cu) (left left' : Int), l.length < k → (bndL (meetsS c l) : Int) ≤ left → (bndL (meetsS c l) : Int) ≤ left' → Same (bndL (meetsS c l)) left left' (lookS false k c l left) (lookS false k c l left')
  | k + 1, c, l, left, left', hk, h1, h2 => by
    have hp := bndL_pos (meetsS c l)
    unfold lookS
    rw [decide_eq_false (show ¬ left < 1 by omega), decide_eq_false (show ¬ left' < 1 by omega)]
    simp only [Bool.and_false, cond_false]
    rcases Bool.eq_false_or_eq_true (l.any (cWithin c)) with ha | ha
    · rw [ha]
      exact ⟨rfl, rfl, by simp only [cond_true]; omega, by simp only [cond_true]; omega⟩
    · rw [ha]
      simp only [cond_false]
      cases hf : firstS c l with
      | none => exact ⟨rfl, rfl, by show left - _ ≤ left - 1; omega, by show left' - _ ≤ left' - 1; omega⟩
      | some y =>
        obtain ⟨g1, g2, g3, g4, g5, g6⟩ := first_some (x := y.1) (suf := y.2) hf
        have hs := partsS_size g1
        have hst : bndL (meetsS c l) = ((meetsS c y.2).length + 1 + 1) * (Nat.max (cSize y.1) 1 * prodS (meetsS c y.2)) := by rw [g2]; rfl
        have hb := step_bound (s := (partsS c y.1).length) (t := Nat.max (cSize y.1) 1) (m := (meetsS c y.2).length) (P := prodS (meetsS c y.2)) (N := bndL (meetsS c y.2)) (Nat.le_trans hs (Nat.le_max_left _ _)) (Nat.le_max_right _ _) (prodS_pos _) rfl
        rw [← hst] at hb
        obtain ⟨k1, k2, k3, k4⟩ := ploop_enough (fun p left => lookS false k p y.2 left) (bndL (meetsS c y.2)) (partsS c y.1) (left - 1) (left' - 1) (fun p hp' a a' ha ha' => by
          have hle := part_meets hp' y.2
          obtain ⟨j1, j2, j3, j4⟩ := lookS_enough k p y.2 a a' (by omega) (by omega) (by omega)
          exact ⟨j1, j2, by omega, by omega⟩) (by omega) (by omega)
        exact ⟨k1, k2, Int.le_trans (by omega) k3, Int.le_trans (by omega) k4⟩

theorem boundL_ge : ∀ (l : List Cu) (b : Int), 1 ≤ b → b ≤ 1099511627776 → b * (prodS l : Int) ≤ boundL l b ∨ 1099511627776 ≤ boundL l b
  | [], b, _, _ => .inl (by show b * 1 ≤ b; omega)
  | x :: l, b, h1, h2 => by
    have ht : maxI (cSize x : Int) 1 = ((Nat.max (cSize x) 1 : Nat) : Int) := by
      have : Nat.max (cSize x) 1 = if cSize x ≤ 1 then 1 else cSize x := rfl
      rw [this]
      unfold maxI
      split <;> split <;> omega
    have hP : (1 : Int) ≤ (prodS l : Int) := by have := prodS_pos l; omega
    have ht1 : (1 : Int) ≤ ((Nat.max (cSize x) 1 : Nat) : Int) := Int.ofNat_le.2 (Nat.le_max_right (cSize x) 1)
    show b * ((Nat.max (cSize x) 1 * prodS l : Nat) : Int) ≤ boundL l (capI (b * maxI (cSize x : Int) 1)) ∨ 1099511627776 ≤ boundL l (capI (b * maxI (cSize x : Int) 1))
    rw [ht, Int.natCast_mul, ← Int.mul_assoc]
    generalize ((Nat.max (cSize x) 1 : Nat) : Int) = t at ht1
    have hbt : 1 ≤ b * t := by have := Int.mul_le_mul h1 ht1 (by decide) (by omega); omega
    by_cases hc : b * t ≤ 1099511627776
    · have e : capI (b * t) = b * t := by unfold capI minI; split <;> omega
      rw [e]
      exact boundL_ge l (b * t) hbt hc
    · have e : capI (b * t) = 1099511627776 := by unfold capI minI; split <;> omega
      rw [e]
      rcases boundL_ge l 1099511627776 (by decide) (by decide) with h | h
      · exact .inr (by omega)
      · exact .inr h
theorem enough_bound (c : Cu) (l : List Cu) (h : boundS c l ≤ 16384) : (bndL (meetsS c l) : Int) ≤ boundS c l := by
  unfold boundS at h ⊢
  generalize meetsS c l = M at h ⊢
  have hP : (1 : Int) ≤ (prodS M : Int) := by have := prodS_pos M; omega
  by_cases hc : ((M.length : Nat) : Int) + 1 ≤ 1099511627776
  · have e : capI (((M.length : Nat) : Int) + 1) = ((M.length : Nat) : Int) + 1 := by unfold capI minI; split <;> omega
    rw [e] at h ⊢
    rcases boundL_ge M (((M.length : Nat) : Int) + 1) (by omega) hc with h' | h'
    · unfold bndL
      rw [Int.natCast_mul]
      exact h'
    · omega
  · have e : capI (((M.length : Nat) : Int) + 1) = 1099511627776 := by unfold capI minI; split <;> omega
    rw [e] at h ⊢
    rcases boundL_ge M 1099511627776 (by decide) (by decide) with h' | h' <;> omega

theorem cover_enough (c : Cu) (l : List Cu) (hL : l.length * 768 ≤ 140737488355328) (more : Int) (h0 : 0 ≤ more) (h1 : more ≤ 4294967295) : law08_CoverEnough (l.length + 4000 + 140) (cu c) (l.map cu) more = some true := by
  have hll : l.length ≤ 200000000000 := by omega
  unfold law08_CoverEnough
  rw [cover_bound (l.length + 4000 + 140) (by omega) c l hL (by omega), obind_some, List.length_map]
  by_cases h12 : ((l.length : Nat) : Int) > 12
  · simp only [h12, decide_true, show (true == false) = false from rfl, cond_false, cover_awake, obind_some]
  · simp only [h12, decide_false, beq_self_eq_true, cond_true]
    by_cases hb : boundS c l > 16384
    · simp only [hb, decide_true, cond_true, cover_awake, obind_some]
    · have hbn := enough_bound c l (by omega)
      have w1 : IntKind.wrap .i64 more = more := w64 (by omega) (by omega)
      have w2 : IntKind.wrap .i64 (boundS c l + more) = boundS c l + more := w64 (by omega) (by omega)
      have m1 : maxI (boundS c l) 0 = boundS c l := by unfold maxI; split <;> omega
      have m2 : maxI (boundS c l + more) 0 = boundS c l + more := by unfold maxI; split <;> omega
      obtain ⟨k1, k2, k3, k4⟩ := lookS_enough (l.length + 4000 + 140) c l (boundS c l) (boundS c l + more) (by omega) hbn (by omega)
      rw [decide_eq_false hb, cond_false, w1, w2]
      simp only [cover_look (l.length + 4000 + 140) (by omega) c l (boundS c l) (by omega) (by omega) (by omega), cover_look (l.length + 4000 + 140) (by omega) c l (boundS c l + more) (by omega) (by omega) (by omega), obind_some]
      unfold LookS
      rw [m1, m2, decide_eq_false (show ¬ boundS c l ≥ 1099511627776 by omega), decide_eq_false (show ¬ boundS c l + more ≥ 1099511627776 by omega)]
      generalize lookS false (l.length + 4000 + 140) c l (boundS c l) = r at k1 k2 k3
      generalize lookS false (l.length + 4000 + 140) c l (boundS c l + more) = r' at k1 k2 k4
      unfold ansS
      rw [decide_eq_false (show ¬ r.2.2 < 0 by omega), decide_eq_false (show ¬ r'.2.2 < 0 by omega)]
      have e : beqT THeader (hd r.1) (hd r'.1) = true := by rw [k1]; exact hd_self _
      simp only [cond_false, beq_self_eq_true, cond_true, e, k2, cover_awake, obind_some]
end Go.Fn
