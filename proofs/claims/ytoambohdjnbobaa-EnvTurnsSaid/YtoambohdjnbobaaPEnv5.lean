/- The plain law of EnvTurns. -/
import Derived.Test.YtoambohdjnbobaaPEnv3
namespace Go.Fn
open Go Go.Vi

theorem wf_i32 {n : Int} : (Lit.int .i32 n).wf = true ↔ -2147483648 ≤ n ∧ n ≤ 2147483647 := by
  have h1 : IntKind.min .i32 = -2147483648 := by decide
  have h2 : IntKind.max .i32 = 2147483647 := by decide
  simp only [Lit.wf, Bool.and_eq_true, decide_eq_true_eq, h1, h2]
theorem wf_i16 {n : Int} : (Lit.int .i16 n).wf = true ↔ -32768 ≤ n ∧ n ≤ 32767 := by
  have h1 : IntKind.min .i16 = -32768 := by decide
  have h2 : IntKind.max .i16 = 32767 := by decide
  simp only [Lit.wf, Bool.and_eq_true, decide_eq_true_eq, h1, h2]
theorem env_turns (t k s : Int) (ht : -2147483648 ≤ t ∧ t ≤ 2147483647) (hk : 0 ≤ k ∧ k ≤ 255) (hs : -32768 ≤ s ∧ s ≤ 32767) : law29_EnvTurns (2000 + 6) t k s = some true := by
  unfold law29_EnvTurns
  obtain ⟨n, hn⟩ : ∃ n, n = 1 + k := ⟨_, rfl⟩
  have hb : -16777216 ≤ n * s ∧ n * s ≤ 16777216 := by
    have h1 : n * s ≤ n * 32767 := Int.mul_le_mul_of_nonneg_left hs.2 (by omega)
    have h2 : n * (-32768) ≤ n * s := Int.mul_le_mul_of_nonneg_left hs.1 (by omega)
    omega
  have e1 : IntKind.wrap .i64 k = k := w64 (by omega) (by omega)
  have e2 : IntKind.wrap .i64 (1 + k) = n := by rw [hn]; exact w64 (by omega) (by omega)
  have e3 : IntKind.wrap .i64 t = t := w64 (by omega) (by omega)
  have e4 : IntKind.wrap .i64 s = s := w64 (by omega) (by omega)
  have e5 : IntKind.wrap .i64 (n * s) = n * s := w64 (by omega) (by omega)
  have e6 : IntKind.wrap .i64 (t + n * s) = t + n * s := w64 (by omega) (by omega)
  have e7 : IntKind.wrap .i64 (t + 1) = t + 1 := w64 (by omega) (by omega)
  have hw : ∀ t : Int, which (t, []) n = t % n := fun t => by unfold which; rw [if_neg (by omega)]
  have h1 := Int.emod_nonneg t (show n ≠ 0 by omega)
  have h2 := Int.emod_lt_of_pos t (show 0 < n by omega)
  have e8 : IntKind.wrap .i64 (t % n + 1) = t % n + 1 := w64 (by omega) (by omega)
  have e9 : (!(n == 0)) = true := by simp; omega
  have e10 : (t + n * s) % n = t % n := Int.add_mul_emod_self_left _ _ _
  have e11 : (t + 1) % n = Int.tmod (t % n + 1) n := by
    rw [Int.tmod_eq_emod_of_nonneg (by omega), Int.emod_add_emod]
  simp only [e1, e2, e3, e4, e5, e6, e7, env_which _ n (by omega), hw, obind_some, e10, bne_self_eq_false, cond_false, e8, e9, cond_true, ← e11, beq_self_eq_true, env_awake]
theorem pureEnvTurns : ∀ x : pdens (law29_EnvTurns.τs.map PTy.data), WfP law29_EnvTurns.τs x → ∃ n, law29_EnvTurns.g n x = some true := by
  rintro ⟨t, k, s⟩ ⟨ht, hk, hs⟩
  exact ⟨2000 + 6, env_turns t k s (wf_i32.1 ht) (wf_u8.1 hk) (wf_i16.1 hs)⟩
end Go.Fn
