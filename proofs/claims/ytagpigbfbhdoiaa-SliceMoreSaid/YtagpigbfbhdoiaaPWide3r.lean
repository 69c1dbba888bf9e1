/- The document's natives of numbers: one bit, whether it is there. -/
import Derived.Test.YtagpigbfbhdoiaaPWide2
namespace Go.Fn
open Go Go.Vi

theorem wide_bit_all : ∀ k, k < 128 → wide_Bit ((k : Nat) : Int) = some (Wd (bitW (k : Int))) := by decide +kernel
theorem wide_bit (i : Int) : wide_Bit i = some (Wd (bitW i)) := by
  by_cases h : i < 0 ∨ 127 < i
  · rw [bitW_out h]
    unfold wide_Bit
    by_cases h0 : i < 0
    · simp only [h0, decide_true]; rfl
    · simp only [h0, decide_false, show i > 127 by omega, decide_true]; rfl
  · have := wide_bit_all i.toNat (by omega)
    rwa [show ((i.toNat : Nat) : Int) = i by omega] at this
theorem wide_has (x : W128) (i : Int) : wide_Has (Wd x) i = some (hasB x i) := by
  unfold wide_Has
  simp only [wide_bit, obind_some, wide_and, wide_zero, and_bit, Bool.not_not]
end Go.Fn
namespace Go.Fn
open Go Go.Vi

theorem ref02_bit_all : ∀ k, k < 128 → ref02_Bit ((k : Nat) : Int) = some (Wd (bitW (k : Int))) := by decide +kernel
theorem ref02_bit (i : Int) : ref02_Bit i = some (Wd (bitW i)) := by
  by_cases h : i < 0 ∨ 127 < i
  · rw [bitW_out h]
    unfold ref02_Bit
    by_cases h0 : i < 0
    · simp only [h0, decide_true]; rfl
    · simp only [h0, decide_false, show i > 127 by omega, decide_true]; rfl
  · have := ref02_bit_all i.toNat (by omega)
    rwa [show ((i.toNat : Nat) : Int) = i by omega] at this
theorem ref02_has (x : W128) (i : Int) : ref02_Has (Wd x) i = some (hasB x i) := by
  unfold ref02_Has
  simp only [ref02_bit, obind_some, ref02_and, ref02_zero, and_bit, Bool.not_not]
end Go.Fn
