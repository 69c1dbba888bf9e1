/- The natives of numbers, as the document has them: one bit, the lowest bits. -/
import Derived.Test.YtagpigbfbhdoiaaPWide1
namespace Go.Fn
open Go Go.Vi

def bitW (i : Int) : W128 := if i < 0 then 0#128 else BitVec.twoPow 128 i.toNat
def lowW (k : Nat) : W128 := BitVec.allOnes 128 >>> (128 - k)
def hasB (x : W128) (i : Int) : Bool := decide (0 ≤ i) && x.getLsbD i.toNat
theorem lowW_bit (k i : Nat) : (lowW k).getLsbD i = (decide (i < k) && decide (i < 128)) := by
  unfold lowW
  rw [BitVec.getLsbD_ushiftRight, BitVec.getLsbD_allOnes]
  by_cases h1 : i < k <;> by_cases h2 : i < 128 <;> simp [h1, h2] <;> omega
theorem bitW_bit (k : Nat) (i : Nat) : (bitW (k : Int)).getLsbD i = (decide (i = k) && decide (i < 128)) := by
  unfold bitW
  rw [if_neg (by omega), Int.toNat_natCast, BitVec.getLsbD_twoPow]
  by_cases h1 : i = k <;> by_cases h2 : i < 128 <;> by_cases h3 : k < 128 <;> simp [h1, h2, h3] <;> omega
theorem bitW_out {i : Int} (h : i < 0 ∨ 127 < i) : bitW i = 0#128 := by
  unfold bitW
  by_cases h0 : i < 0
  · rw [if_pos h0]
  · rw [if_neg h0]
    apply bits_ext
    intro j
    rw [BitVec.getLsbD_twoPow]
    simp; omega
theorem and_bit (x : W128) (i : Int) : (x &&& bitW i == 0#128) = !(hasB x i) := by
  rw [Bool.eq_iff_iff, beq_iff_eq, zero_iff]
  unfold hasB
  by_cases h0 : 0 ≤ i
  · obtain ⟨k, rfl⟩ := Int.eq_ofNat_of_zero_le h0
    simp only [h0, decide_true, Bool.true_and, Int.toNat_natCast, BitVec.getLsbD_and, bitW_bit]
    constructor
    · intro h
      have := h k
      by_cases hk : k < 128
      · simpa [hk] using this
      · rw [BitVec.getLsbD_of_ge _ _ (by omega)]; rfl
    · intro h j
      by_cases hj : j = k
      · subst hj
        have : x.getLsbD j = false := by simpa using h
        rw [this]; rfl
      · simp [hj]
  · have : i < 0 := by omega
    simp [h0, bitW, this]
theorem clamp (n : Int) : ∃ k : Nat, k ≤ 128 ∧ minI (maxI n 0) 128 = (k : Int) ∧ ((n ≤ 0 ∧ k = 0) ∨ (0 ≤ n ∧ n ≤ 128 ∧ n = (k : Int)) ∨ (128 < n ∧ k = 128)) := by
  unfold minI maxI
  by_cases h1 : n ≤ 0
  · exact ⟨0, by omega, by split <;> split <;> omega, .inl ⟨h1, rfl⟩⟩
  · by_cases h2 : n ≤ 128
    · exact ⟨n.toNat, by omega, by split <;> split <;> omega, .inr (.inl ⟨by omega, h2, by omega⟩)⟩
    · exact ⟨128, by omega, by split <;> split <;> omega, .inr (.inr ⟨by omega, rfl⟩)⟩
theorem lowW_clamp {n : Int} {k : Nat} (h : (n ≤ 0 ∧ k = 0) ∨ (0 ≤ n ∧ n ≤ 128 ∧ n = (k : Int)) ∨ (128 < n ∧ k = 128)) : lowW k = lowW n.toNat := by
  apply bits_ext
  intro i
  rw [lowW_bit, lowW_bit]
  rcases h with ⟨h1, h2⟩ | ⟨h1, h2, h3⟩ | ⟨h1, h2⟩
  · subst h2
    rw [show n.toNat = 0 by omega]
  · subst h3; rfl
  · subst h2
    by_cases hi : i < 128
    · rw [decide_eq_true (show i < n.toNat by omega), decide_eq_true hi]
    · simp [hi]
end Go.Fn
