/- The plain law of NumPuts: what is put is what the document puts; what was given stays. -/
import Derived.Test.YtoambohdjnbobaaPNumBack
namespace Go.Fn
open Go Go.Vi

theorem equal_loop (n : Nat) (s : List Int) (hL : s.length ≤ 140737488351232) : ∀ (k m : Nat) (i : Int), 0 ≤ i → i + k = s.length → k < m → slices_Equal_byte.l0 n s s s.length m i = some true
  | 0, m + 1, i, _, hi, _ => by
    simp only [slices_Equal_byte.l0, slices_Equal_byte.s0, show ¬ i < (s.length : Int) by omega, decide_false, cond_false]
  | k + 1, m + 1, i, h0, hi, hm => by
    have e1 : IntKind.wrap .i64 (i + 1) = i + 1 := w64 (by omega) (by omega)
    simp only [slices_Equal_byte.l0, slices_Equal_byte.s0, show i < (s.length : Int) by omega, decide_true, cond_true, inRange_true h0 (show i < (s.length : Int) by omega), bne_self_eq_false, cond_false, e1]
    exact equal_loop n s hL k m (i + 1) (by omega) (by omega) (by omega)
theorem equal_self (n : Nat) (s : List Int) (hL : s.length ≤ 140737488351232) (hn : s.length < n) : slices_Equal_byte n s s = some true := by
  simp only [slices_Equal_byte, slices_Equal_byte.s, bne_self_eq_false, cond_false]
  exact equal_loop n s hL s.length n 0 (by omega) (by omega) hn

theorem right_eq (x size : Int) : num_Right x size = some (ref01_Right x size) := by
  have g : ∀ (y k : Int), (2 : Int) ^ (min y.toNat (IntKind.bits .i64)) = k → 0 ≤ k → shrI .i64 x y = x / k := fun y k h hk => by
    unfold shrI
    rw [h, Int.fdiv_eq_ediv_of_nonneg _ hk]
  by_cases h0 : x ≥ 0
  · have c : decide (x ≥ 0) = true := by simpa using h0
    have t1 : ((x / 256 == 0) : Bool) = decide (x ≤ 255) := by rw [Bool.eq_iff_iff, beq_iff_eq, decide_eq_true_eq]; omega
    have t2 : ((x / 65536 == 0) : Bool) = decide (x ≤ 65535) := by rw [Bool.eq_iff_iff, beq_iff_eq, decide_eq_true_eq]; omega
    have t4 : ((x / 4294967296 == 0) : Bool) = decide (x ≤ 4294967295) := by rw [Bool.eq_iff_iff, beq_iff_eq, decide_eq_true_eq]; omega
    by_cases h1 : size = 1
    · subst h1
      show (bif decide (x ≥ 0) == true then some (shrI .i64 x 8 == 0) else some false) = some (bif decide (x ≥ 0) == true then decide (x ≤ 255) else false)
      rw [c, g 8 256 (by decide) (by decide), t1]; rfl
    by_cases h2 : size = 2
    · subst h2
      show (bif decide (x ≥ 0) == true then some (shrI .i64 x 16 == 0) else some false) = some (bif decide (x ≥ 0) == true then decide (x ≤ 65535) else false)
      rw [c, g 16 65536 (by decide) (by decide), t2]; rfl
    by_cases h4 : size = 4
    · subst h4
      show (bif decide (x ≥ 0) == true then some (shrI .i64 x 32 == 0) else some false) = some (bif decide (x ≥ 0) == true then decide (x ≤ 4294967295) else false)
      rw [c, g 32 4294967296 (by decide) (by decide), t4]; rfl
    have b1 : (size == 1) = false := by simpa using h1
    have b2 : (size == 2) = false := by simpa using h2
    have b4 : (size == 4) = false := by simpa using h4
    simp [num_Right, ref01_Right, num_sized, b1, b2, b4, obind_some]
  · have c : decide (x ≥ 0) = false := by simpa using h0
    simp only [num_Right, ref01_Right, c, obind_some]
    cases num_sized size <;> cases (size == 1) <;> cases (size == 2) <;> cases (size == 4) <;> rfl

theorem right_size {x size : Int} (h : ref01_Right x size = true) : size = 1 ∨ size = 2 ∨ size = 4 := by
  by_cases h1 : size = 1
  · exact .inl h1
  by_cases h2 : size = 2
  · exact .inr (.inl h2)
  by_cases h4 : size = 4
  · exact .inr (.inr h4)
  have b1 : (size == 1) = false := by simpa using h1
  have b2 : (size == 2) = false := by simpa using h2
  have b4 : (size == 4) = false := by simpa using h4
  simp [ref01_Right, b1, b2, b4] at h

theorem put_loop' (n k : Nat) (b : List Int) (x size : Int) : num_Put.l0 n b x size (k + 6) 0 (List.replicate 4 0) = num_Put.s0 n (fun _ _ => none) b x size 4 [byt x 24, byt x 16, byt x 8, byt x 0] := by kernel_rfl

theorem put_eq (k : Nat) (b : List Int) (x size : Int) (hL : b.length ≤ 10000) : num_Put (k + 6) b x size = some (bif ref01_Right x size then b ++ bytesOf x size else b) := by
  unfold num_Put num_Put.s
  rw [right_eq, obind_some]
  cases h : ref01_Right x size with
  | true =>
    have := right_size h
    simp only [Bool.not_true, cond_false, cond_true]
    rw [put_loop', put_end _ b x size this (by omega)]
  | false =>
    have : decide ((List.length ([] : List Int) + b.length) * 1 ≤ 140737488355328) = true := by
      rw [decide_eq_true_eq]; simp; omega
    simp only [Bool.not_false, cond_true, cond_false, this, List.nil_append]

theorem ref_step (n m : Nat) (x : Int) (out : List Int) (i : Int) (h0 : 0 ≤ i) (h1 : i ≤ 3) (hL : out.length ≤ 20000) : ref01_Put.l0 n x (m + 1) out i = ref01_Put.l0 n x m (out ++ [byt x (8 * i)]) (i - 1) := by
  have e1 : IntKind.wrap .i64 (8 * i) = 8 * i := w64 (by omega) (by omega)
  have e2 : IntKind.wrap .i64 (i - 1) = i - 1 := w64 (by omega) (by omega)
  have c1 : decide ((out.length + List.length [byt x (8 * i)]) * 1 ≤ 140737488355328) = true := by
    rw [decide_eq_true_eq]; simp; omega
  have c2 : IntKind.wrap .u8 (shrI .i64 x (8 * i)) = byt x (8 * i) := rfl
  simp only [ref01_Put.l0, ref01_Put.s0, show i ≥ 0 from h0, decide_true, cond_true, e1, show ¬ 8 * i < 0 by omega, decide_false, Bool.not_false, c2, c1, e2]
theorem ref_stop (n m : Nat) (x : Int) (out : List Int) : ref01_Put.l0 n x (m + 1) out (-1) = some out := rfl

theorem ref_eq (k : Nat) (b : List Int) (x size : Int) (hL : b.length ≤ 10000) : ref01_Put (k + 6) b x size = some (bif ref01_Right x size then b ++ bytesOf x size else b) := by
  have c0 : decide ((List.length ([] : List Int) + b.length) * 1 ≤ 140737488355328) = true := by
    rw [decide_eq_true_eq]; simp; omega
  unfold ref01_Put ref01_Put.s
  simp only [c0, cond_true, obind_some, List.nil_append]
  cases h : ref01_Right x size with
  | false => rfl
  | true =>
    simp only [Bool.not_true, cond_false, cond_true]
    rcases right_size h with rfl | rfl | rfl
    · show ref01_Put.l0 (k + 6) x (k + 5 + 1) b 0 = _
      rw [ref_step _ _ _ _ _ (by omega) (by omega) (by omega)]
      exact ref_stop _ _ _ _
    · show ref01_Put.l0 (k + 6) x (k + 5 + 1) b 1 = _
      rw [ref_step _ _ _ _ _ (by omega) (by omega) (by omega)]
      show ref01_Put.l0 (k + 6) x (k + 4 + 1) (b ++ [byt x 8]) 0 = _
      rw [ref_step _ _ _ _ _ (by omega) (by omega) (by simp; omega), List.append_assoc]
      exact ref_stop _ _ _ _
    · show ref01_Put.l0 (k + 6) x (k + 5 + 1) b 3 = _
      rw [ref_step _ _ _ _ _ (by omega) (by omega) (by omega)]
      show ref01_Put.l0 (k + 6) x (k + 4 + 1) (b ++ [byt x 24]) 2 = _
      rw [ref_step _ _ _ _ _ (by omega) (by omega) (by simp; omega)]
      show ref01_Put.l0 (k + 6) x (k + 3 + 1) (b ++ [byt x 24] ++ [byt x 16]) 1 = _
      rw [ref_step _ _ _ _ _ (by omega) (by omega) (by simp; omega)]
      show ref01_Put.l0 (k + 6) x (k + 2 + 1) (b ++ [byt x 24] ++ [byt x 16] ++ [byt x 8]) 0 = _
      rw [ref_step _ _ _ _ _ (by omega) (by omega) (by simp; omega), List.append_assoc, List.append_assoc, List.append_assoc]
      exact ref_stop _ _ _ _

theorem num_awake' (k : Nat) : law01_awake (k + 6) = some true := by kernel_rfl

theorem num_puts (b : List Int) (x size : Int) : law01_NumPuts (b.length + 20 + 6) b x size = some true := by
  by_cases hL : ((b.length : Nat) : Int) > 4000
  · simp [law01_NumPuts, hL, num_awake', obind_some]
  · have hc : slices_Clone_byte b = some b := by
      have : decide ((List.length ([] : List Int) + b.length) * 1 ≤ 140737488355328) = true := by
        rw [decide_eq_true_eq]; simp; omega
      unfold slices_Clone_byte
      rw [this]; rfl
    have h1 : decide ((b.length + List.length ([9, 8, 7, 6] : List Int)) * 1 ≤ 140737488355328) = true := by
      rw [decide_eq_true_eq]; simp; omega
    have hs : sub (b ++ [9, 8, 7, 6]) 0 b.length = b := by simp [sub]
    have h2 : (decide ((0 : Int) ≤ (b.length : Int)) && decide ((b.length : Int) ≤ ((b ++ ([9, 8, 7, 6] : List Int)).length : Int))) = true := by
      simp only [List.length_append, Bool.and_eq_true, decide_eq_true_eq]
      simp
      omega
    have hbl : (bytesOf x size).length ≤ 4 := by simp [bytesOf]
    have hp : (bif ref01_Right x size then b ++ bytesOf x size else b).length ≤ b.length + 4 := by
      cases ref01_Right x size <;> simp [hbl]
    have q1 := equal_self (b.length + 20 + 6) (bif ref01_Right x size then b ++ bytesOf x size else b) (by omega) (by omega)
    have q2 := equal_self (b.length + 20 + 6) (b ++ [9, 8, 7, 6]) (by simp <;> omega) (by simp <;> omega)
    simp only [law01_NumPuts, hL, decide_false, cond_false, hc, obind_some, h1, cond_true, h2, Int.toNat_natCast, hs, put_eq _ b x size (by omega), ref_eq _ b x size (by omega), q1, q2, right_eq, num_awake', beq_self_eq_true]

theorem pureNumPuts : ∀ x : pdens (law01_NumPuts.τs.map PTy.data), WfP law01_NumPuts.τs x → ∃ n, law01_NumPuts.g n x = some true := by
  rintro ⟨b, y, k⟩ _
  exact ⟨_, num_puts b y k⟩
end Go.Fn
