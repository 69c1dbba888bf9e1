/- The document's natives of numbers: the lowest bits. -/
import Derived.Test.YtagpigbfbhdoiaaPWide2
import Derived.Test.YtagpigbfbhdoiaaPWide3r
namespace Go.Fn
open Go Go.Vi

end Go.Fn
namespace Go.Fn
open Go Go.Vi

theorem low_or (i : Nat) (hi : i < 128) : lowW i ||| bitW (i : Int) = lowW (i + 1) := by
  apply bits_ext
  intro j
  rw [BitVec.getLsbD_or, lowW_bit, lowW_bit, bitW_bit]
  by_cases h1 : j < i <;> by_cases h2 : j = i <;> by_cases h3 : j < i + 1 <;> by_cases h4 : j < 128 <;> simp [h1, h2, h3, h4] <;> omega
theorem low_fold : ∀ (k i : Nat), i + k ≤ 128 → (List.range' i k).foldl (fun s i => ref02_Or s (Wd (bitW ((i : Nat) : Int)))) (Wd (lowW i)) = Wd (lowW (i + k))
  | 0, i, _ => rfl
  | k + 1, i, h => by
    rw [List.range'_succ, List.foldl_cons, ref02_or, low_or i (by omega), low_fold k (i + 1) (by omega)]
    congr 2; omega
end Go.Fn
