/- The plain laws of the environments. -/
import Derived.Test.YtoambohdjnbobaaPEnv2
namespace Go.Fn
open Go Go.Vi

theorem takeL_congr {α : Type} {w w' : Nat → α → List Int → Bool} (h : ∀ i x out, w i x out = w' i x out) : ∀ (xs : List α) (i : Nat) (out : List Int), takeL w i xs out = takeL w' i xs out
  | [], _, _ => rfl
  | x :: xs, i, out => by
    unfold takeL
    rw [h]
    exact takeL_congr h xs (i + 1) _

theorem env_takes (n : Nat) (e : Env) (g : Group) (h1 : e.2.length < n) (h2 : g.2.2.length < n) (h3 : g.2.2.length ≤ 1000) (hn : n ≤ 9223372036854775807) : env_Takes n e g = some (takes e g) := by
  unfold env_Takes env_Takes.s
  by_cases h0 : ((g.2.2.length : Nat) : Int) == 0
  · have : g.2.2 = [] := List.length_eq_zero_iff.1 (by simpa using h0)
    rw [h0, cond_true]
    unfold takes
    rw [this]; rfl
  · have h0' : (((g.2.2.length : Nat) : Int) == 0) = false := by simpa using h0
    have hpos : 0 < g.2.2.length := by
      rcases Nat.eq_zero_or_pos g.2.2.length with h | h
      · rw [h] at h0; simp at h0
      · exact h
    rw [h0', cond_false]
    unfold takes
    cases c0 : (g.2.1 == 0) with
    | true =>
      rw [cond_true, takeL_congr (w' := fun _ _ _ => true) (fun i x out => by simp only [takeW, c0, cond_true]), ← take_loop _ g.2.2 0 [] (by simpa using h3)]
      refine loopL_start (fun m out i => env_Takes.l0 n g.2.2.length m out i) g.2.2 (fun m out i x hx => ?_) (fun m out => ?_) h2 []
      · simp only [env_Takes.l0, env_Takes.s0, lt_of hx, decide_true, cond_true, succ_of hx (by omega), takeStep, push]
        cases decide ((List.length out + List.length ([(i : Int)] : List Int)) * 8 ≤ 140737488355328) <;> rfl
      · simp only [env_Takes.l0, env_Takes.s0, Int.lt_irrefl, decide_false, cond_false]
    | false =>
    rw [cond_false]
    cases c1 : (g.2.1 == 1) with
    | true =>
      have hw := env_which e g.2.2.length (by omega)
      rw [cond_true, hw, obind_some, takeL_congr (w' := fun i _ _ => ((i : Int) == which e g.2.2.length)) (fun i x out => by simp only [takeW, c0, c1, cond_true, cond_false]), takeL_at]
      have h5 := Int.emod_nonneg e.1 (show ((g.2.2.length : Nat) : Int) ≠ 0 by omega)
      have h6 := Int.emod_lt_of_pos e.1 (show 0 < ((g.2.2.length : Nat) : Int) by omega)
      have hwh : which e g.2.2.length = e.1 % ((g.2.2.length : Nat) : Int) := by unfold which; rw [if_neg (by omega)]
      rw [if_pos (by rw [hwh]; omega)]; rfl
    | false =>
    rw [cond_false]
    cases c2 : (g.2.1 == 2) with
    | true =>
      rw [cond_true, takeL_congr (w' := fun i _ _ => ((i : Int) == 0)) (fun i x out => by simp only [takeW, c0, c1, c2, cond_true, cond_false]), takeL_at, if_pos (by omega)]; rfl
    | false =>
    rw [cond_false]
    cases c3 : (g.2.1 == 3) with
    | true =>
      rw [cond_true, world_up n e g h1 h2 hn, obind_some, takeL_congr (w' := fun _ (x : Bucket) out => bif (((List.length out : Nat) : Int) == 0) == true then up e x.2.1 else false) (fun i x out => by simp only [takeW, c0, c1, c2, c3, cond_true, cond_false]), takeL_first (fun x : Bucket => up e x.2.1)]
      cases decide (idxOf (fun x : Bucket => up e x.2.1) 0 g.2.2 ≥ 0) <;> rfl
    | false =>
      rw [cond_false, takeL_congr (w' := fun _ _ _ => false) (fun i x out => by simp only [takeW, c0, c1, c2, c3, cond_false]), takeL_none]

theorem env_awake (k : Nat) : law29_awake (k + 6) = some true := by kernel_rfl

theorem env_tells (e : Env) (port n2 : Int) (g : Group) (hn : n2 ≤ 9223372036854775807) : law29_EnvTells (2000 + 6) e port n2 g = some true := by
  unfold law29_EnvTells
  by_cases h1 : ((e.2.length : Nat) : Int) > 100
  · simp only [h1, decide_true, env_awake, obind_some]; rfl
  by_cases h2 : ((g.2.2.length : Nat) : Int) > 100
  · simp only [h1, h2, decide_true, decide_false, env_awake, obind_some]; rfl
  have h3 : (takes e g).length < 2000 + 6 := by
    have := takeL_len (takeW e g) g.2.2 0 []
    unfold takes
    simp at this
    omega
  simp only [h1, h2, decide_false, env_up _ e port (show _ by omega) (show e.2.length < 2000 + 6 by omega), ref_up _ e port (show _ by omega) (show e.2.length < 2000 + 6 by omega), env_which e n2 hn, ref_which e n2 hn,
    env_takes (2000 + 6) e g (by omega) (by omega) (by omega) (by omega), ref_takes (2000 + 6) e g (by omega) (by omega) (by omega) (by omega), equal_int_self _ (takes e g) (by omega) h3, env_awake, obind_some, beq_self_eq_true, cond_true, cond_false]

theorem pureEnvTells : ∀ x : pdens (law29_EnvTells.τs.map PTy.data), WfP law29_EnvTells.τs x → ∃ n, law29_EnvTells.g n x = some true := by
  rintro ⟨e, port, n2, g⟩ ⟨_, _, hn, _⟩
  exact ⟨_, env_tells e port n2 g (wf_i64.1 hn).2⟩
end Go.Fn
