/- The document's natives of numbers: the lowest bits. -/
import Derived.Test.YtpiboooclejjcaaPWide3r
namespace Go.Fn
open Go Go.Vi

theorem low_or (i : Nat) (hi : i < 128) : lowW i ||| bitW (i : Int) = lowW (i + 1) := by
  apply bits_ext
  intro j
  rw [BitVec.getLsbD_or, lowW_bit, lowW_bit, bitW_bit]
  by_cases h1 : j < i <;> by_cases h2 : j = i <;> by_cases h3 : j < i + 1 <;> by_cases h4 : j < 128 <;> simp [h1, h2, h3, h4] <;> omega
theorem low_fold : ∀ (k i : Nat), i + k ≤ 128 → (List.range' i k).foldl (fun s i => ref02_Or s (Wd (bitW ((i : Nat) : Int)))) (Wd (lowW i)) = Wd (lowW (i + k))
  | 0, i, _ => rfl
  | k + 1, i, h => by
    rw [List.range'_succ, List.foldl_cons, ref02_or, low_or i (by omega), low_fold k (i + 1) (by omega)]
    congr 2; omega
theorem ref02_lowest (n : Nat) (hn : 128 < n) (x : Int) : ref02_Low n x = some (Wd (lowW x.toNat)) := by
  obtain ⟨k, hk, e, h⟩ := clamp x
  show ref02_Low.l0 n x (0, 0) n 0 (0, 0) = _
  rw [loopN_start (step := fun i s => .inr (ref02_Or s (Wd (bitW ((i : Nat) : Int))))) (fin := some) (fun m s i => ref02_Low.l0 n x (0, 0) m i s) k
    (fun m s i hi => by
      simp only [ref02_Low.l0, ref02_Low.s0, show (i : Int) < x by omega, show (i : Int) < 128 by omega, decide_true, ref02_bit, obind_some, w64 (n := (i : Int) + 1) (by omega) (by omega)]; rfl)
    (fun m s => by
      simp only [ref02_Low.l0, ref02_Low.s0]
      by_cases h1 : (k : Int) < x
      · simp only [h1, decide_true, show ¬ (k : Int) < 128 by omega, decide_false]; rfl
      · simp only [h1, decide_false]; rfl) (by omega)]
  rw [loopN_fold, show ((0, 0) : Int × Int) = Wd (lowW 0) from rfl, low_fold k 0 (by omega), Nat.zero_add, lowW_clamp h]
end Go.Fn
