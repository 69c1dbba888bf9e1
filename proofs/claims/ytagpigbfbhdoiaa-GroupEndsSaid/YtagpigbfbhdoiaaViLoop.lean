/- Loops over a list, as the natives have them: by an index, with rounds that run out. -/
import Derived.Test.YtagpigbfbhdoiaaViMath
namespace Go.Vi

/-- What a loop over a list comes to: each step stops with a result, or goes on. -/
def loopL {α σ R : Type} (step : Nat → α → σ → Option R ⊕ σ) (fin : σ → Option R) : Nat → List α → σ → Option R
  | _, [], s => fin s
  | i, x :: xs, s => match step i x s with
    | .inl r => r
    | .inr s' => loopL step fin (i + 1) xs s'

theorem loopL_rule {α σ R : Type} {step : Nat → α → σ → Option R ⊕ σ} {fin : σ → Option R} (f : Nat → σ → Int → Option R) (xs : List α)
    (hs : ∀ m s (i : Nat) x, xs[i]? = some x → f (m + 1) s (i : Int) = match step i x s with | .inl r => r | .inr s' => f m s' ((i : Int) + 1))
    (he : ∀ m s, f (m + 1) s (xs.length : Int) = fin s) : ∀ (ys : List α) (i m : Nat) (s : σ), xs.drop i = ys → i ≤ xs.length → ys.length < m → f m s (i : Int) = loopL step fin i ys s
  | [], i, m + 1, s, hd, hi, _ => by
    have : xs.length ≤ i := List.drop_eq_nil_iff.1 hd
    have : i = xs.length := by omega
    subst this
    rw [he]; rfl
  | y :: ys, i, m + 1, s, hd, hi, hm => by
    have hx : xs[i]? = some y := by
      have := congrArg (fun l => l[0]?) hd
      simpa [List.getElem?_drop] using this
    have hlt : i < xs.length := (List.getElem?_eq_some_iff.1 hx).1
    have hd' : xs.drop (i + 1) = ys := by
      have := congrArg (List.drop 1) hd
      simpa [List.drop_drop, Nat.add_comm] using this
    rw [hs m s i y hx]
    unfold loopL
    cases step i y s with
    | inl r => rfl
    | inr s' =>
      have := loopL_rule f xs hs he ys (i + 1) m s' hd' (by omega) (by simp at hm; omega)
      simpa using this

/-- The same, from the beginning. -/
theorem loopL_start {α σ R : Type} {step : Nat → α → σ → Option R ⊕ σ} {fin : σ → Option R} (f : Nat → σ → Int → Option R) (xs : List α)
    (hs : ∀ m s (i : Nat) x, xs[i]? = some x → f (m + 1) s (i : Int) = match step i x s with | .inl r => r | .inr s' => f m s' ((i : Int) + 1))
    (he : ∀ m s, f (m + 1) s (xs.length : Int) = fin s) {m : Nat} (hm : xs.length < m) (s : σ) : f m s 0 = loopL step fin 0 xs s :=
  loopL_rule f xs hs he xs 0 m s rfl (by omega) hm

theorem getD_of {α : Type} {xs : List α} {i : Nat} {x d : α} (h : xs[i]? = some x) : List.getD xs (Int.toNat (i : Int)) d = x := by
  rw [Int.toNat_natCast, List.getD_eq_getElem?_getD, h]; rfl
theorem inRange_of {α : Type} {xs : List α} {i : Nat} {x : α} (h : xs[i]? = some x) : inRange (i : Int) xs.length = true :=
  inRange_true (by omega) (by have := (List.getElem?_eq_some_iff.1 h).1; omega)
theorem lt_of {α : Type} {xs : List α} {i : Nat} {x : α} (h : xs[i]? = some x) : (i : Int) < (xs.length : Int) := by
  have := (List.getElem?_eq_some_iff.1 h).1; omega
theorem succ_of {α : Type} {xs : List α} {i : Nat} {x : α} (h : xs[i]? = some x) (hL : xs.length ≤ 9223372036854775807) : IntKind.wrap .i64 ((i : Int) + 1) = (i : Int) + 1 := by
  have := (List.getElem?_eq_some_iff.1 h).1
  exact w64 (by omega) (by omega)
end Go.Vi
