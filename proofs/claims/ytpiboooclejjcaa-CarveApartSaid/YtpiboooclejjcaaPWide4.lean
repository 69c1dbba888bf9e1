/- The natives of numbers, as the document has them: the lowest bits. -/
import Derived.Test.YtpiboooclejjcaaPWide2
namespace Go.Fn
open Go Go.Vi

theorem wide_low_all : ∀ k, k < 129 → wide_Low ((k : Nat) : Int) = some (Wd (lowW k)) := by decide +kernel
theorem wide_lowest (n : Int) : wide_Low n = some (Wd (lowW n.toNat)) := by
  obtain ⟨k, hk, e, h⟩ := clamp n
  obtain ⟨k', hk', e', h'⟩ := clamp (k : Int)
  have hkk : k' = k := by omega
  have : wide_Low n = wide_Low (k : Int) := by
    unfold wide_Low
    rw [e, e', hkk]
  rw [this, wide_low_all k (by omega), lowW_clamp h]
end Go.Fn
