/- How many bits a number has, as the document counts them. -/
import Derived.Test.YtpiboooclejjcaaPMany
import Derived.Test.YtpiboooclejjcaaPWide3r
namespace Go.Fn
open Go Go.Vi

theorem many_loop (x : W128) : ∀ (k i c : Nat), i + k = 128 → c ≤ i → loopN (R := Int) (fun i (s : Int) => .inr (bif hasB x ((i : Nat) : Int) then IntKind.wrap .i64 (s + 1) else s)) some k i (c : Int) = some (((c + (List.range' i k).countP x.getLsbD : Nat) : Int))
  | 0, i, c, _, _ => rfl
  | k + 1, i, c, hi, hc => by
    unfold loopN
    have hb : hasB x ((i : Nat) : Int) = x.getLsbD i := by simp [hasB]
    rw [List.range'_succ, List.countP_cons]
    simp only [hb]
    cases x.getLsbD i with
    | true =>
      rw [cond_true, w64 (by omega) (by omega)]
      have := many_loop x k (i + 1) (c + 1) (by omega) (by omega)
      rw [show ((c + 1 : Nat) : Int) = (c : Int) + 1 by omega] at this
      rw [this]; congr 2
      simp; omega
    | false =>
      rw [cond_false, many_loop x k (i + 1) c (by omega) (by omega)]; congr 2
theorem ref02_many (n : Nat) (hn : 128 < n) (x : W128) : ref02_Many n (Wd x) = some (cnt x : Int) := by
  show ref02_Many.l0 n (Wd x) n 0 0 = _
  rw [loopN_start (step := fun i (s : Int) => .inr (bif hasB x ((i : Nat) : Int) then IntKind.wrap .i64 (s + 1) else s)) (fin := some) (fun m s i => ref02_Many.l0 n (Wd x) m s i) 128
    (fun m s i hi => by
      simp only [ref02_Many.l0, ref02_Many.s0, show (i : Int) < 128 by omega, decide_true, cond_true, ref02_has, obind_some, w64 (n := (i : Int) + 1) (by omega) (by omega)]
      cases hasB x (i : Int) <;> rfl)
    (fun m s => by simp only [ref02_Many.l0, ref02_Many.s0]; rfl) hn]
  have := many_loop x 128 0 0 rfl (Nat.le_refl _)
  rw [Nat.zero_add] at this
  rw [show (0 : Int) = ((0 : Nat) : Int) from rfl, this, ← List.range_eq_range']; rfl
end Go.Fn
