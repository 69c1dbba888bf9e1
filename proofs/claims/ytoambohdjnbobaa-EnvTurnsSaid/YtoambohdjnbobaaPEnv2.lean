/- The plain laws of the environments: which buckets a group takes. -/
import Derived.Test.YtoambohdjnbobaaPEnv
namespace Go.Fn
open Go Go.Vi

def push (i : Nat) (out : List Int) : Option (List Int) ⊕ List Int := bif decide ((List.length out + List.length ([(i : Int)] : List Int)) * 8 ≤ 140737488355328) then .inr (out ++ [(i : Int)]) else .inl none
theorem push_ok {i : Nat} {out : List Int} (h : out.length ≤ 1000) : push i out = .inr (out ++ [(i : Int)]) := by
  have : decide ((List.length out + List.length ([(i : Int)] : List Int)) * 8 ≤ 140737488355328) = true := by
    rw [decide_eq_true_eq]; simp; omega
  unfold push
  rw [this]; rfl
def takeStep {α : Type} (w : Nat → α → List Int → Bool) : Nat → α → List Int → Option (List Int) ⊕ List Int := fun i x out => bif w i x out then push i out else .inr out
def takeL {α : Type} (w : Nat → α → List Int → Bool) : Nat → List α → List Int → List Int
  | _, [], out => out
  | i, x :: xs, out => takeL w (i + 1) xs (bif w i x out then out ++ [(i : Int)] else out)
theorem take_loop {α : Type} (w : Nat → α → List Int → Bool) : ∀ (xs : List α) (i : Nat) (out : List Int), out.length + xs.length ≤ 1000 → loopL (takeStep w) some i xs out = some (takeL w i xs out)
  | [], _, _, _ => rfl
  | x :: xs, i, out, h => by
    simp only [List.length_cons] at h
    unfold loopL takeL takeStep
    cases hw : w i x out with
    | true =>
      simp only [cond_true, push_ok (i := i) (out := out) (by omega)]
      exact take_loop w xs (i + 1) _ (by simp; omega)
    | false => simp only [cond_false]; exact take_loop w xs (i + 1) out (by omega)

theorem takeL_len {α : Type} (w : Nat → α → List Int → Bool) : ∀ (xs : List α) (i : Nat) (out : List Int), (takeL w i xs out).length ≤ out.length + xs.length
  | [], _, out => by simp [takeL]
  | x :: xs, i, out => by
    unfold takeL
    refine Nat.le_trans (takeL_len w xs (i + 1) _) ?_
    cases w i x out <;> simp <;> omega
theorem takeL_none {α : Type} : ∀ (xs : List α) (i : Nat) (out : List Int), takeL (fun _ _ _ => false) i xs out = out
  | [], _, _ => rfl
  | _ :: xs, i, out => takeL_none xs (i + 1) out
theorem takeL_at {α : Type} (k : Int) : ∀ (xs : List α) (i : Nat) (out : List Int), takeL (fun i _ _ => (i : Int) == k) i xs out = if (i : Int) ≤ k ∧ k < i + xs.length then out ++ [k] else out
  | [], i, out => by
    rw [if_neg (by simp <;> omega)]; rfl
  | x :: xs, i, out => by
    unfold takeL
    rw [takeL_at k xs (i + 1)]
    by_cases h : (i : Int) = k
    · have hb : ((i : Int) == k) = true := by simpa using h
      rw [hb, cond_true, if_neg (by omega), if_pos (by simp; omega), h]
    · have hb : ((i : Int) == k) = false := by simpa using h
      rw [hb, cond_false]
      by_cases h2 : ((i + 1 : Nat) : Int) ≤ k ∧ k < ((i + 1 : Nat) : Int) + xs.length
      · rw [if_pos h2, if_pos (by simp; omega)]
      · rw [if_neg h2, if_neg (by simp; omega)]
theorem takeL_full {α : Type} (p : α → Bool) : ∀ (xs : List α) (i : Nat) (a : Int) (out : List Int), takeL (fun _ x out => bif (((List.length out : Nat) : Int) == 0) == true then p x else false) i xs (a :: out) = a :: out
  | [], _, _, _ => rfl
  | x :: xs, i, a, out => by
    unfold takeL
    have : (((List.length (a :: out) : Nat) : Int) == 0) = false := by simp; omega
    simp only [this]
    exact takeL_full p xs (i + 1) a out
theorem takeL_first {α : Type} (p : α → Bool) : ∀ (xs : List α) (i : Nat), takeL (fun _ x out => bif (((List.length out : Nat) : Int) == 0) == true then p x else false) i xs [] = bif decide (idxOf p i xs ≥ 0) then [idxOf p i xs] else []
  | [], _ => rfl
  | x :: xs, i => by
    unfold takeL
    cases h : p x with
    | true =>
      have : idxOf p i (x :: xs) = (i : Int) := by simp [idxOf, h]
      rw [this]
      have h2 : decide ((i : Int) ≥ 0) = true := by simp
      rw [h2]
      exact takeL_full p xs (i + 1) i []
    | false =>
      have : idxOf p i (x :: xs) = idxOf p (i + 1) xs := by simp [idxOf, h]
      rw [this]
      exact takeL_first p xs (i + 1)

/-- Which bucket a group of so many takes in turn. -/
def which (e : Env) (n : Int) : Int := if n < 1 then 0 else e.1 % n
theorem tmod_emod {a n : Int} (hn : 1 ≤ n) : (if a.tmod n < 0 then a.tmod n + n else a.tmod n) = a % n := by
  rw [Int.tmod_eq_emod]
  have h1 := Int.emod_nonneg a (show n ≠ 0 by omega)
  have h2 := Int.emod_lt_of_pos a (show 0 < n by omega)
  have h3 : ((n.natAbs : Int)) = n := by omega
  split <;> split <;> omega
theorem env_which (e : Env) (n : Int) (hn : n ≤ 9223372036854775807) : env_Which e n = some (which e n) := by
  unfold env_Which which
  by_cases h : n < 1
  · simp [h]
  · have h0 : (!(n == 0)) = true := by simp; omega
    have := tmod_emod (a := e.1) (show 1 ≤ n by omega)
    have h1 := Int.emod_nonneg e.1 (show n ≠ 0 by omega)
    have h2 := Int.emod_lt_of_pos e.1 (show 0 < n by omega)
    simp only [h, decide_false, cond_false, h0, cond_true, if_false]
    by_cases hc : e.1.tmod n < 0
    · rw [if_pos hc] at this
      simp only [hc, decide_true, cond_true, this, w64 (show -9223372036854775808 ≤ e.1 % n by omega) (by omega)]
    · rw [if_neg hc] at this
      simp only [this, show ¬ (e.1 % n < 0) by omega, decide_false, cond_false]
theorem ref_which (e : Env) (n : Int) (hn : n ≤ 9223372036854775807) : ref29_Which e n = some (which e n) := (show ref29_Which e n = env_Which e n from rfl).trans (env_which e n hn)

/-- The buckets that a group takes. -/
def takeW (e : Env) (g : Group) : Nat → Bucket → List Int → Bool := fun i x out =>
  bif g.2.1 == 0 then true else bif g.2.1 == 1 then ((i : Int) == which e g.2.2.length) else bif g.2.1 == 2 then ((i : Int) == 0) else bif g.2.1 == 3 then (bif (((List.length out : Nat) : Int) == 0) == true then up e x.2.1 else false) else false
def takes (e : Env) (g : Group) : List Int := takeL (takeW e g) 0 g.2.2 []

theorem ref_takes (n : Nat) (e : Env) (g : Group) (h1 : e.2.length < n) (h2 : g.2.2.length < n) (h3 : g.2.2.length ≤ 1000) (hn : n ≤ 9223372036854775807) : ref29_Takes n e g = some (takes e g) := by
  show ref29_Takes.l0 n e g n [] 0 = _
  unfold takes
  rw [← take_loop (takeW e g) g.2.2 0 [] (by simpa using h3)]
  refine loopL_start (fun m out i => ref29_Takes.l0 n e g m out i) g.2.2 (fun m out i x hx => ?_) (fun m out => ?_) h2 []
  · have hw := ref_which e g.2.2.length (by omega)
    have hu := ref_up n e x.2.1 (by omega) h1
    simp only [ref29_Takes.l0, ref29_Takes.s0, lt_of hx, decide_true, cond_true, inRange_of hx, getD_of hx, succ_of hx (by omega), hw, hu, obind_some, takeStep, takeW, push]
    cases (g.2.1 == 0) <;> simp only [cond_true, cond_false]
    · cases (g.2.1 == 1) <;> simp only [cond_true, cond_false]
      · cases (g.2.1 == 2) <;> simp only [cond_true, cond_false]
        · cases (g.2.1 == 3) <;> simp only [cond_true, cond_false]
          cases ((((List.length out : Nat) : Int) == 0) == true) <;> simp only [cond_true, cond_false]
          cases up e x.2.1 <;> simp only [cond_true, cond_false]
          cases decide ((List.length out + List.length ([(i : Int)] : List Int)) * 8 ≤ 140737488355328) <;> rfl
        · cases ((i : Int) == 0) <;> simp only [cond_true, cond_false]
          cases decide ((List.length out + List.length ([(i : Int)] : List Int)) * 8 ≤ 140737488355328) <;> rfl
      · cases ((i : Int) == which e g.2.2.length) <;> simp only [cond_true, cond_false]
        cases decide ((List.length out + List.length ([(i : Int)] : List Int)) * 8 ≤ 140737488355328) <;> rfl
    · cases decide ((List.length out + List.length ([(i : Int)] : List Int)) * 8 ≤ 140737488355328) <;> rfl
  · simp only [ref29_Takes.l0, ref29_Takes.s0, Int.lt_irrefl, decide_false, cond_false]
end Go.Fn
