/- The plain laws of the environments. -/
import Derived.Test.YtoambohdjnbobaaPEnv3
namespace Go.Fn
open Go Go.Vi

theorem takes_fast (e : Env) (l : List Bucket) : takes e (0, 3, l) = bif decide (idxOf (fun x : Bucket => up e x.2.1) 0 l ≥ 0) then [idxOf (fun x : Bucket => up e x.2.1) 0 l] else [] := by
  unfold takes
  rw [takeL_congr (w := takeW e (0, 3, l)) (w' := fun _ (x : Bucket) out => bif (((List.length out : Nat) : Int) == 0) == true then up e x.2.1 else false) (fun i x out => rfl), takeL_first (fun x : Bucket => up e x.2.1)]
theorem idx_neg {α : Type} (p : α → Bool) (xs : List α) (i : Nat) : idxOf p i xs = -1 ∨ idxOf p i xs ≥ 0 := by
  induction xs generalizing i with
  | nil => exact .inl rfl
  | cons x xs ih =>
    unfold idxOf
    cases p x with
    | true => right; simp
    | false => exact ih (i + 1)

theorem env_fast (e : Env) (l : List Bucket) : law29_EnvFast (2000 + 6) e l = some true := by
  unfold law29_EnvFast
  by_cases h1 : ((e.2.length : Nat) : Int) > 100
  · simp only [h1, decide_true, env_awake, obind_some]; rfl
  by_cases h2 : ((l.length : Nat) : Int) > 100
  · simp only [h1, h2, decide_true, decide_false, env_awake, obind_some]; rfl
  have hi := index_bucket (2000 + 6) l (fun x => law29_EnvFast_1 (2000 + 6) x e) (fun x : Bucket => up e x.2.1) (fun x => by
    unfold law29_EnvFast_1
    rw [contains_int _ e.2 x.2.1 (by omega) (by omega), obind_some]; rfl) (by omega) (by omega)
  have ht := env_takes (2000 + 6) e (0, 3, l) (by omega) (show l.length < 2000 + 6 by omega) (show l.length ≤ 1000 by omega) (by omega)
  rw [takes_fast] at ht
  simp only [h1, h2, decide_false, hi, ht, obind_some, env_awake, cond_false]
  rcases idx_neg (fun x : Bucket => up e x.2.1) l 0 with h | h
  · rw [h]; rfl
  · have c1 : decide (idxOf (fun x : Bucket => up e x.2.1) 0 l ≥ 0) = true := by simpa using h
    have c2 : decide (idxOf (fun x : Bucket => up e x.2.1) 0 l < 0) = false := by simpa using h
    simp only [c1, c2, cond_true, cond_false, List.getD_cons_zero]
    simp [inRange]

theorem pureEnvFast : ∀ x : pdens (law29_EnvFast.τs.map PTy.data), WfP law29_EnvFast.τs x → ∃ n, law29_EnvFast.g n x = some true := by
  rintro ⟨e, l⟩ _
  exact ⟨_, env_fast e l⟩

theorem takes_select (e : Env) (l : List Bucket) (h : 0 < l.length) : takes e (0, 1, l) = [which e l.length] := by
  unfold takes
  rw [takeL_congr (w := takeW e (0, 1, l)) (w' := fun i _ _ => ((i : Int) == which e l.length)) (fun i x out => rfl), takeL_at]
  have h5 := Int.emod_nonneg e.1 (show ((l.length : Nat) : Int) ≠ 0 by omega)
  have h6 := Int.emod_lt_of_pos e.1 (show 0 < ((l.length : Nat) : Int) by omega)
  have hwh : which e l.length = e.1 % ((l.length : Nat) : Int) := by unfold which; rw [if_neg (by omega)]
  rw [if_pos (by rw [hwh]; show _ ∧ _ < ((0 : Nat) : Int) + (l.length : Int); omega)]; rfl

theorem env_select (e : Env) (l : List Bucket) (n : Nat) (hn : n = e.2.length + 2000 + 6) (hb : e.2.length ≤ 1000000000000000000) : law29_EnvSelect n e l = some true := by
  have haw : law29_awake n = some true := by rw [hn]; exact env_awake _
  unfold law29_EnvSelect
  by_cases h2 : ((l.length : Nat) : Int) > 100
  · simp only [h2, decide_true, haw, obind_some]; rfl
  have ht := env_takes n e (0, 1, l) (by omega) (show l.length < n by omega) (show l.length ≤ 1000 by omega) (by omega)
  simp only [h2, decide_false, cond_false, ht, obind_some, haw]
  rcases Nat.eq_zero_or_pos l.length with h | h
  · have : l = [] := List.length_eq_zero_iff.1 h
    subst this
    rfl
  · rw [takes_select e l h]
    have hw := env_which e l.length (by omega)
    have h5 := Int.emod_nonneg e.1 (show ((l.length : Nat) : Int) ≠ 0 by omega)
    have h6 := Int.emod_lt_of_pos e.1 (show 0 < ((l.length : Nat) : Int) by omega)
    have hwh : which e l.length = e.1 % ((l.length : Nat) : Int) := by unfold which; rw [if_neg (by omega)]
    have c0 : (((l.length : Nat) : Int) == 0) = false := by rw [beq_eq_false_iff_ne]; omega
    have c1 : decide (which e l.length ≥ 0) = true := by rw [hwh, decide_eq_true_eq]; exact h5
    have c2 : decide (which e l.length < ((l.length : Nat) : Int)) = true := by rw [hwh, decide_eq_true_eq]; exact h6
    simp only [c0, hw, obind_some, List.getD_cons_zero, c1, c2, haw, cond_false]
    simp [inRange]

theorem pureEnvSelect : ∀ x : pdens (law29_EnvSelect.τs.map PTy.data), WfP law29_EnvSelect.τs x → ∃ n, law29_EnvSelect.g n x = some true := by
  rintro ⟨e, l⟩ ⟨⟨_, he, he2, _⟩, _⟩
  exact ⟨_, env_select e l _ rfl (by simp [Ty.bytes] at he2; omega)⟩
end Go.Fn
