/- The natives of terns, as the document has them: within, the bits that count, a bit that is fixed. -/
import Derived.Test.YtagpigbfbhdoiaaPTern1
import Derived.Test.YtagpigbfbhdoiaaPWide3r
import Derived.Test.YtagpigbfbhdoiaaPMany
namespace Go.Fn
open Go Go.Vi

theorem tern_within (a b : BT) : tern_Within (Tn a) (Tn b) = tWithin a b := by
  unfold tern_Within tWithin
  simp only [Tn_1, Tn_2, wide_less, wide_zero, tern_has]
  cases (b.2 &&& ~~~a.2 == 0#128) <;> rfl
theorem ref05_within (a b : BT) : ref05_Within (Tn a) (Tn b) = tWithin a b := by
  unfold ref05_Within tWithin tHas
  simp only [Tn_1, Tn_2, ref02_less, ref02_zero, ref02_xor, ref02_and]
  rw [BitVec.xor_comm a.1 b.1]
  cases (b.2 &&& ~~~a.2 == 0#128) <;> rfl

/-- The bits that a number has, the highest one first. -/
def bitsL (x : W128) (k : Nat) : List Int := ((List.range k).reverse.filter x.getLsbD).map fun i => ((i : Nat) : Int)
theorem bitsL_succ (x : W128) (k : Nat) : bitsL x (k + 1) = bif x.getLsbD k then (k : Int) :: bitsL x k else bitsL x k := by
  unfold bitsL
  rw [List.range_succ, List.reverse_append]
  show List.map _ (List.filter _ (k :: (List.range k).reverse)) = _
  rw [List.filter_cons]
  cases x.getLsbD k <;> rfl
theorem bitsL_none (x : W128) (k : Nat) (h : (List.range k).countP x.getLsbD = 0) : bitsL x k = [] := by
  unfold bitsL
  rw [List.countP_eq_zero] at h
  rw [List.filter_eq_nil_iff.2 fun i hi => h i (by simpa using hi)]; rfl
theorem bitsL_length (x : W128) (k : Nat) : (bitsL x k).length = (List.range k).countP x.getLsbD := by
  unfold bitsL
  rw [List.length_map, ← List.countP_eq_length_filter, List.countP_reverse]
theorem bitsL_le (x : W128) (k : Nat) : (bitsL x k).length ≤ k := by
  rw [bitsL_length]; exact Nat.le_trans List.countP_le_length (by simp)
theorem bitsL_mem {x : W128} {k : Nat} {i : Int} : i ∈ bitsL x k ↔ ∃ j : Nat, i = (j : Int) ∧ j < k ∧ x.getLsbD j = true := by
  unfold bitsL
  rw [List.mem_map]
  constructor
  · rintro ⟨j, hj, rfl⟩
    rw [List.mem_filter] at hj
    exact ⟨j, rfl, by simpa using hj.1, hj.2⟩
  · rintro ⟨j, rfl, h1, h2⟩
    exact ⟨j, List.mem_filter.2 ⟨by simpa using h1, h2⟩, rfl⟩
def freeW (a b : BT) : W128 := b.2 &&& ~~~a.2
def tBits (a b : BT) : List Int := bitsL (freeW a b) 128
theorem hasB_nat (x : W128) (i : Nat) : hasB x (i : Int) = x.getLsbD i := by simp [hasB]
theorem range_count (x : W128) (k : Nat) : (List.range (k + 1)).countP x.getLsbD = (List.range k).countP x.getLsbD + bif x.getLsbD k then 1 else 0 := by
  rw [List.range_succ, List.countP_append]
  cases h : x.getLsbD k <;> simp [h]
theorem bits_loop (n : Nat) (free : W128) : ∀ (k m : Nat) (out : List Int), k ≤ 128 → k < m → out.length + (List.range k).countP free.getLsbD = cnt free → tern_Bits.l0 n (Wd free) m out ((k : Int) - 1) = some (out ++ bitsL free k)
  | 0, m + 1, out, _, _, _ => by
    simp only [tern_Bits.l0, tern_Bits.s0]
    simp [bitsL]
  | k + 1, m + 1, out, h1, h2, h3 => by
    have e : ((k + 1 : Nat) : Int) - 1 = (k : Int) := by omega
    have hle := cnt_le free
    have hol : out.length ≤ 128 := by omega
    have c : decide ((List.length out + List.length ([(k : Int)] : List Int)) * 8 ≤ 140737488355328) = true := decide_eq_true (by simp; omega)
    have hw : IntKind.wrap .i64 ((k : Int) - 1) = (k : Int) - 1 := w64 (by omega) (by omega)
    simp only [tern_Bits.l0, tern_Bits.s0, e, show (k : Int) ≥ 0 by omega, decide_true, beq_self_eq_true, cond_true, wide_many, obind_some]
    by_cases hlt : out.length < cnt free
    · rw [decide_eq_true (show ((List.length out : Nat) : Int) < (cnt free : Int) by omega), cond_true, wide_has, obind_some, hasB_nat, bitsL_succ]
      rw [range_count] at h3
      cases hb : free.getLsbD k with
      | true =>
        rw [hb, cond_true] at h3
        simp only [cond_true, c, hw]
        rw [bits_loop n free k m _ (by omega) (by omega) (by simp; omega)]
        simp
      | false =>
        rw [hb, cond_false] at h3
        simp only [cond_false, hw]
        exact bits_loop n free k m _ (by omega) (by omega) (by omega)
    · rw [decide_eq_false (show ¬ ((List.length out : Nat) : Int) < (cnt free : Int) by omega), cond_false, bitsL_none free (k + 1) (by omega), List.append_nil]
theorem tern_bits (n : Nat) (hn : 128 < n) (a b : BT) : tern_Bits n (Tn a) (Tn b) = some (tBits a b) := by
  unfold tern_Bits tern_Bits.s
  rw [Tn_2, Tn_2, wide_less, obind_some]
  exact bits_loop n (freeW a b) 128 n [] (by omega) hn (by simp [cnt])
theorem ref_bits_loop (n : Nat) (a b : BT) : ∀ (k m : Nat) (out : List Int), k ≤ 128 → k < m → out.length + k ≤ 128 → ref05_Bits.l0 n (Tn a) (Tn b) m out ((k : Int) - 1) = some (out ++ bitsL (freeW a b) k)
  | 0, m + 1, out, _, _, _ => by
    simp only [ref05_Bits.l0, ref05_Bits.s0]
    simp [bitsL]
  | k + 1, m + 1, out, h1, h2, h3 => by
    have e : ((k + 1 : Nat) : Int) - 1 = (k : Int) := by omega
    have c : decide ((List.length out + List.length ([(k : Int)] : List Int)) * 8 ≤ 140737488355328) = true := decide_eq_true (by simp; omega)
    have hw : IntKind.wrap .i64 ((k : Int) - 1) = (k : Int) - 1 := w64 (by omega) (by omega)
    have hf : (freeW a b).getLsbD k = (b.2.getLsbD k && !(a.2.getLsbD k)) := by
      unfold freeW
      rw [BitVec.getLsbD_and, BitVec.getLsbD_not, decide_eq_true (show k < 128 by omega), Bool.true_and]
    simp only [ref05_Bits.l0, ref05_Bits.s0, e, show (k : Int) ≥ 0 by omega, decide_true, cond_true, Tn_2, ref02_has, obind_some, hasB_nat, c, hw, bitsL_succ, hf]
    have ih1 := ref_bits_loop n a b k m (out ++ [(k : Int)]) (by omega) (by omega) (by simp; omega)
    have ih2 := ref_bits_loop n a b k m out (by omega) (by omega) (by omega)
    cases b.2.getLsbD k <;> cases a.2.getLsbD k <;> simp only [beq_self_eq_true, cond_true, cond_false, Bool.not_true, Bool.not_false, Bool.and_true, Bool.and_false, Bool.true_and, Bool.false_and, show (false == true) = false from rfl, ih1, ih2, List.append_assoc, List.singleton_append]
theorem ref_bits (n : Nat) (hn : 128 < n) (a b : BT) : ref05_Bits n (Tn a) (Tn b) = some (tBits a b) :=
  ref_bits_loop n a b 128 n [] (by omega) hn (by simp)

def tFix (t : BT) (i : Int) (on : Bool) : BT := (bif on then ((t.1 &&& t.2) &&& ~~~bitW i) ||| bitW i else (t.1 &&& t.2) &&& ~~~bitW i, t.2 ||| bitW i)
theorem tern_fix (t : BT) (i : Int) (on : Bool) : tern_Fix (Tn t) i on = some (Tn (tFix t i on)) := by
  unfold tern_Fix tFix
  simp only [wide_bit, obind_some, tern_clean, Tn_1, Tn_2, tClean, wide_or, wide_less, Tn_mk]
  cases on <;> rfl
theorem ref05_fix (t : BT) (i : Int) (on : Bool) : ref05_Fix (Tn t) i on = some (Tn (tFix t i on)) := by
  unfold ref05_Fix tFix
  simp only [ref02_bit, obind_some, ref05_clean, Tn_1, Tn_2, tClean, ref02_or, ref02_less, Tn_mk]
  cases on <;> rfl
theorem tFix_has {t : BT} {i : Nat} (hi : i < 128) {on : Bool} {v : W128} : tHas (tFix t (i : Int) on) v = true ↔ (∀ j, j ≠ i → t.2.getLsbD j = true → t.1.getLsbD j = v.getLsbD j) ∧ v.getLsbD i = on := by
  rw [tHas_iff]
  have h2 : ∀ j, (tFix t (i : Int) on).2.getLsbD j = (t.2.getLsbD j || decide (j = i)) := fun j => by
    unfold tFix
    simp only [BitVec.getLsbD_or, bitW_bit]
    by_cases h : j = i
    · subst h; simp [hi]
    · simp [h]
  have h1 : ∀ j, (tFix t (i : Int) on).1.getLsbD j = bif decide (j = i) then on else (t.1.getLsbD j && t.2.getLsbD j) := fun j => by
    unfold tFix
    by_cases h : j = i
    · subst h
      cases on <;> simp [BitVec.getLsbD_or, BitVec.getLsbD_and, BitVec.getLsbD_not, bitW_bit, hi]
    · have hb : (bitW (i : Int)).getLsbD j = false := by rw [bitW_bit]; simp [h]
      by_cases hj : j < 128
      · cases on <;> simp only [cond_true, cond_false, BitVec.getLsbD_or, BitVec.getLsbD_and, BitVec.getLsbD_not, hb, hj, decide_true, decide_eq_false h, Bool.not_false, Bool.and_true, Bool.or_false]
      · have := BitVec.getLsbD_of_ge t.1 j (by omega)
        cases on <;> simp only [cond_true, cond_false, BitVec.getLsbD_or, BitVec.getLsbD_and, BitVec.getLsbD_not, hb, this, decide_eq_false h, Bool.false_and, Bool.or_false]
  constructor
  · intro h
    refine ⟨fun j hj ht => ?_, ?_⟩
    · have := h j (by rw [h2, ht]; rfl)
      rw [h1, decide_eq_false hj, cond_false, ht, Bool.and_true] at this
      exact this
    · have := h i (by rw [h2]; simp)
      rw [h1] at this
      simpa using this.symm
  · rintro ⟨k1, k2⟩ j hj
    rw [h1]
    by_cases h : j = i
    · subst h; simp [k2]
    · rw [decide_eq_false h, cond_false]
      rw [h2, decide_eq_false h, Bool.or_false] at hj
      rw [hj, Bool.and_true]; exact k1 j h hj

end Go.Fn
