/- Numbers: got and put, as the document does. -/
import Derived.Test.YtdafodpjmklfpaaW
import Derived.Test.YtdafodpjmklfpaaViMath
namespace Go.Fn
open Go Go.Vi

theorem num_gets_loop (n : Nat) (b : List Int) (p size : Int) (hb : ∀ x ∈ b, 0 ≤ x ∧ x ≤ 255) (h1 : 0 ≤ p) (h2 : p + size ≤ b.length) (h3 : size ≤ 4) (hL : b.length ≤ 140737488351232) (y : List Int)
    (hy : y = sub b p.toNat (p + size).toNat) (hyl : (y.length : Int) = size) :
    ∀ (k m : Nat) (i acc : Int), i + k = size → 0 ≤ i → k < m → 0 ≤ acc → acc < 256 ^ i.toNat → ∃ v, num_Get.l0 n y size m acc i = some (v, 0) ∧ ref01_Get.l0 n b p size m acc i = some (v, 0)
  | 0, m + 1, i, acc, hi, _, _, _, _ => by
    have : ¬ i < size := by omega
    simp only [num_Get.l0, num_Get.s0, ref01_Get.l0, ref01_Get.s0, this, decide_false, cond_false]
    exact ⟨_, rfl, rfl⟩
  | k + 1, m + 1, i, acc, hi, h0, hm, ha, hab => by
    have hlt : i < size := by omega
    have e0 : IntKind.wrap .i64 (p + i) = p + i := w64 (by omega) (by omega)
    have e1 : IntKind.wrap .i64 (i + 1) = i + 1 := w64 (by omega) (by omega)
    have hiy : i.toNat < y.length := by omega
    have hib : (p + i).toNat < b.length := by omega
    have eq : List.getD y i.toNat 0 = List.getD b (p + i).toNat 0 := by
      rw [hy, List.getD_eq_getElem?_getD, List.getD_eq_getElem?_getD]
      unfold sub
      rw [List.getElem?_drop, List.getElem?_take, if_pos (by omega)]
      congr 2
      omega
    have hx : 0 ≤ List.getD b (p + i).toNat 0 ∧ List.getD b (p + i).toNat 0 ≤ 255 := by
      rw [List.getD_eq_getElem?_getD, List.getElem?_eq_getElem hib]
      exact hb _ (List.getElem_mem hib)
    obtain ⟨x, hxe⟩ : ∃ x, List.getD b (p + i).toNat 0 = x := ⟨_, rfl⟩
    rw [hxe] at eq hx
    have hpow : (256 : Int) ^ i.toNat ≤ 16777216 := by
      have : i.toNat = 0 ∨ i.toNat = 1 ∨ i.toNat = 2 ∨ i.toNat = 3 := by omega
      rcases this with h | h | h | h <;> rw [h] <;> decide
    have eor := or_byte (n := acc) (b := x) ha (by omega) hx.1 hx.2
    have er : IntKind.wrap .i64 (IntKind.wrap .i64 (acc * 256) + IntKind.wrap .i64 x) = acc * 256 + x := by
      rw [w64 (n := acc * 256) (by omega) (by omega), w64 (n := x) (by omega) (by omega), w64 (by omega) (by omega)]
    obtain ⟨r, r1, r2⟩ := num_gets_loop n b p size hb h1 h2 h3 hL y hy hyl k m (i + 1) (acc * 256 + x) (by omega) (by omega) (by omega) (by omega) (by
      rw [show (i + 1).toNat = i.toNat + 1 by omega, Int.pow_succ]; omega)
    refine ⟨r, ?_, ?_⟩
    · simp only [num_Get.l0, num_Get.s0, hlt, decide_true, cond_true, inRange_true h0 (show i < (y.length : Int) by omega), eq, eor, e1]
      exact r1
    · simp only [ref01_Get.l0, ref01_Get.s0, hlt, decide_true, cond_true, e0, inRange_true (show 0 ≤ p + i by omega) (show p + i < (b.length : Int) by omega), hxe, er, e1]
      exact r2

theorem num_gets (K : Nat) (b : List Int) (p size : Int) (hb : ∀ x ∈ b, 0 ≤ x ∧ x ≤ 255) (hL : b.length ≤ 140737488351232) (hp : -9223372036854775808 ≤ p ∧ p ≤ 9223372036854775807) :
    ((size = 1 ∨ size = 2 ∨ size = 4) ∧ 0 ≤ p ∧ p + size ≤ b.length ∧ ∃ v, num_Get (K + 6) b p size = some (v, 0) ∧ ref01_Get (K + 6) b p size = some (v, 0)) ∨
    (¬ ((size = 1 ∨ size = 2 ∨ size = 4) ∧ 0 ≤ p ∧ p + size ≤ b.length) ∧ ∃ e, e ≠ 0 ∧ num_Get (K + 6) b p size = some (0, e) ∧ ref01_Get (K + 6) b p size = some (0, e)) := by
  have key : (size = 1 ∨ size = 2 ∨ size = 4) → 0 ≤ p → p + size ≤ b.length → ∃ v, num_Get.l0 (K + 6) (sub b p.toNat (p + size).toNat) (List.length (sub b p.toNat (p + size).toNat) : Int) (K + 6) 0 0 = some (v, 0) ∧ ref01_Get.l0 (K + 6) b p size (K + 6) 0 0 = some (v, 0) := by
    intro hs h0 h1
    have hyl : ((sub b p.toNat (p + size).toNat).length : Int) = size := by
      unfold sub
      rw [List.length_drop, List.length_take]
      omega
    rw [hyl]
    exact num_gets_loop (K + 6) b p size hb h0 h1 (by omega) hL _ rfl hyl size.toNat (K + 6) 0 0 (by omega) (by omega) (by omega) (by omega) (by decide)
  by_cases hs : size = 1 ∨ size = 2 ∨ size = 4
  · have e1 : num_sized size = true := by rcases hs with rfl | rfl | rfl <;> rfl
    have e2 : ∀ (α : Type) (x y z : α), (bif ((size != 1) == true) then (bif ((size != 2) == true) then (bif ((size != 4) == false) then y else x) else y) else y) = y := by
      intro α x y z
      rcases hs with rfl | rfl | rfl <;> rfl
    by_cases h0 : p < 0
    · refine .inr ⟨fun h => by omega, 1, by decide, ?_, ?_⟩
      · simp [num_Get, num_Get.s, e1, h0, obind_some]
      · simp only [ref01_Get, ref01_Get.s, h0, decide_true, cond_true]
        rcases hs with rfl | rfl | rfl <;> rfl
    · have ew : IntKind.wrap .i64 ((b.length : Int) - p) = b.length - p := w64 (by omega) (by omega)
      by_cases h1 : (b.length : Int) - p < size
      · refine .inr ⟨fun h => by omega, 3, by decide, ?_, ?_⟩
        · simp [num_Get, num_Get.s, e1, h0, ew, h1, obind_some]
        · simp only [ref01_Get, ref01_Get.s, h0, decide_false, cond_false, ew]
          by_cases h2 : p > (b.length : Int)
          · simp only [h2, decide_true]
            rcases hs with rfl | rfl | rfl <;> rfl
          · have h3 : size > (b.length : Int) - p := h1
            simp only [h2, h3, decide_true, decide_false]
            rcases hs with rfl | rfl | rfl <;> rfl
      · obtain ⟨r, r1, r2⟩ := key hs (by omega) (by omega)
        have ea : IntKind.wrap .i64 (p + size) = p + size := w64 (by omega) (by omega)
        refine .inl ⟨hs, by omega, by omega, r, ?_, ?_⟩
        · have g1 : (0 : Int) ≤ p := by omega
          have g2 : p ≤ p + size := by omega
          have g3 : p + size ≤ (b.length : Int) := by omega
          simp only [num_Get, num_Get.s, e1, obind_some, h0, ew, h1, ea, g1, g2, g3, decide_true, decide_false, cond_true, cond_false, Bool.not_true, Bool.and_true, beq_self_eq_true]
          exact r1
        · have h2 : ¬ p > (b.length : Int) := by omega
          have h3 : ¬ size > (b.length : Int) - p := by omega
          simp only [ref01_Get, ref01_Get.s, h0, decide_false, cond_false, ew, h2, h3]
          rcases hs with rfl | rfl | rfl <;> exact r2
  · have n1 : size ≠ 1 := by omega
    have n2 : size ≠ 2 := by omega
    have n4 : size ≠ 4 := by omega
    have b1 : (size == 1) = false := by simpa using n1
    have b2 : (size == 2) = false := by simpa using n2
    have b4 : (size == 4) = false := by simpa using n4
    refine .inr ⟨fun h => hs h.1, 1, by decide, ?_, ?_⟩
    · simp [num_Get, num_Get.s, num_sized, b1, b2, b4, obind_some]
    · simp [ref01_Get, ref01_Get.s, bne, b1, b2, b4]

/-- A byte of a number. -/
def byt (x y : Int) : Int := IntKind.wrap .u8 (shrI .i64 x y)
theorem byt_eq {x : Int} : byt x 0 = x % 256 ∧ byt x 8 = x / 256 % 256 ∧ byt x 16 = x / 65536 % 256 ∧ byt x 24 = x / 16777216 % 256 := by
  have f : ∀ (m : Int), IntKind.wrap .u8 m = m % 256 := fun m => by
    show m % 256 = _
    rfl
  have g : ∀ (y : Int) (k : Int), (2 : Int) ^ (min y.toNat (IntKind.bits .i64)) = k → 0 ≤ k → byt x y = x / k % 256 := fun y k h hk => by
    unfold byt shrI
    rw [f, h, Int.fdiv_eq_ediv_of_nonneg _ hk]
  refine ⟨?_, g 8 256 (by decide) (by decide), g 16 65536 (by decide) (by decide), g 24 16777216 (by decide) (by decide)⟩
  have := g 0 1 (by decide) (by decide)
  rw [this, Int.ediv_one]

/-- The bytes of a number of so many. -/
def numB (x size : Int) : List Int := List.drop (4 - size).toNat [byt x 24, byt x 16, byt x 8, byt x 0]

theorem put_end (n : Nat) (b : List Int) (x size : Int) (hs : size = 1 ∨ size = 2 ∨ size = 4) (hL : b.length ≤ 140737488351232) : num_Put.s0 n (fun _ _ => none) b x size 4 [byt x 24, byt x 16, byt x 8, byt x 0] = some (b ++ numB x size) := by
  have e1 : IntKind.wrap .i64 (4 - size) = 4 - size := w64 (by omega) (by omega)
  have e2 : sub b 0 b.length = b := by simp [sub]
  have e3 : (List.drop (4 - size).toNat [byt x 24, byt x 16, byt x 8, byt x 0]).length ≤ 4 := by simp
  simp only [num_Put.s0, show ¬ (4 : Int) < 4 by omega, decide_false, cond_false, e1, Int.toNat_natCast, e2]
  have c1 : (decide ((0 : Int) ≤ (b.length : Int)) && (decide True && decide ((b.length : Int) ≤ (b.length : Int)))) = true := by simp
  have c2 : (decide ((0 : Int) ≤ 4 - size) && decide (4 - size ≤ (([byt x 24, byt x 16, byt x 8, byt x 0] : List Int).length : Int))) = true := by
    simp only [List.length_cons, List.length_nil, Bool.and_eq_true, decide_eq_true_eq]
    omega
  have c3 : decide ((b.length + (List.drop (4 - size).toNat [byt x 24, byt x 16, byt x 8, byt x 0]).length) * 1 ≤ 140737488355328) = true := by
    rw [decide_eq_true_eq]; omega
  rw [c1, c2, c3]
  rfl

theorem right_eq (x size : Int) : num_Right x size = some (ref01_Right x size) := by
  have g : ∀ (y k : Int), (2 : Int) ^ (min y.toNat (IntKind.bits .i64)) = k → 0 ≤ k → shrI .i64 x y = x / k := fun y k h hk => by
    unfold shrI
    rw [h, Int.fdiv_eq_ediv_of_nonneg _ hk]
  by_cases h0 : x ≥ 0
  · have c : decide (x ≥ 0) = true := by simpa using h0
    have t1 : ((x / 256 == 0) : Bool) = decide (x ≤ 255) := by rw [Bool.eq_iff_iff, beq_iff_eq, decide_eq_true_eq]; omega
    have t2 : ((x / 65536 == 0) : Bool) = decide (x ≤ 65535) := by rw [Bool.eq_iff_iff, beq_iff_eq, decide_eq_true_eq]; omega
    have t4 : ((x / 4294967296 == 0) : Bool) = decide (x ≤ 4294967295) := by rw [Bool.eq_iff_iff, beq_iff_eq, decide_eq_true_eq]; omega
    by_cases h1 : size = 1
    · subst h1
      show (bif decide (x ≥ 0) == true then some (shrI .i64 x 8 == 0) else some false) = some (bif decide (x ≥ 0) == true then decide (x ≤ 255) else false)
      rw [c, g 8 256 (by decide) (by decide), t1]; rfl
    by_cases h2 : size = 2
    · subst h2
      show (bif decide (x ≥ 0) == true then some (shrI .i64 x 16 == 0) else some false) = some (bif decide (x ≥ 0) == true then decide (x ≤ 65535) else false)
      rw [c, g 16 65536 (by decide) (by decide), t2]; rfl
    by_cases h4 : size = 4
    · subst h4
      show (bif decide (x ≥ 0) == true then some (shrI .i64 x 32 == 0) else some false) = some (bif decide (x ≥ 0) == true then decide (x ≤ 4294967295) else false)
      rw [c, g 32 4294967296 (by decide) (by decide), t4]; rfl
    have b1 : (size == 1) = false := by simpa using h1
    have b2 : (size == 2) = false := by simpa using h2
    have b4 : (size == 4) = false := by simpa using h4
    simp [num_Right, ref01_Right, num_sized, b1, b2, b4, obind_some]
  · have c : decide (x ≥ 0) = false := by simpa using h0
    simp only [num_Right, ref01_Right, c, obind_some]
    cases num_sized size <;> cases (size == 1) <;> cases (size == 2) <;> cases (size == 4) <;> rfl

theorem right_size {x size : Int} (h : ref01_Right x size = true) : size = 1 ∨ size = 2 ∨ size = 4 := by
  by_cases h1 : size = 1
  · exact .inl h1
  by_cases h2 : size = 2
  · exact .inr (.inl h2)
  by_cases h4 : size = 4
  · exact .inr (.inr h4)
  have b1 : (size == 1) = false := by simpa using h1
  have b2 : (size == 2) = false := by simpa using h2
  have b4 : (size == 4) = false := by simpa using h4
  simp [ref01_Right, b1, b2, b4] at h

theorem put_loop' (n k : Nat) (b : List Int) (x size : Int) : num_Put.l0 n b x size (k + 6) 0 (List.replicate 4 0) = num_Put.s0 n (fun _ _ => none) b x size 4 [byt x 24, byt x 16, byt x 8, byt x 0] := by kernel_rfl

theorem put_eq (k : Nat) (b : List Int) (x size : Int) (hL : b.length ≤ 10000) : num_Put (k + 6) b x size = some (bif ref01_Right x size then b ++ numB x size else b) := by
  unfold num_Put num_Put.s
  rw [right_eq, obind_some]
  cases h : ref01_Right x size with
  | true =>
    have := right_size h
    simp only [Bool.not_true, cond_false, cond_true]
    rw [put_loop', put_end _ b x size this (by omega)]
  | false =>
    have : decide ((List.length ([] : List Int) + b.length) * 1 ≤ 140737488355328) = true := by
      rw [decide_eq_true_eq]; simp; omega
    simp only [Bool.not_false, cond_true, cond_false, this, List.nil_append]

theorem ref_step (n m : Nat) (x : Int) (out : List Int) (i : Int) (h0 : 0 ≤ i) (h1 : i ≤ 3) (hL : out.length ≤ 20000) : ref01_Put.l0 n x (m + 1) out i = ref01_Put.l0 n x m (out ++ [byt x (8 * i)]) (i - 1) := by
  have e1 : IntKind.wrap .i64 (8 * i) = 8 * i := w64 (by omega) (by omega)
  have e2 : IntKind.wrap .i64 (i - 1) = i - 1 := w64 (by omega) (by omega)
  have c1 : decide ((out.length + List.length [byt x (8 * i)]) * 1 ≤ 140737488355328) = true := by
    rw [decide_eq_true_eq]; simp; omega
  have c2 : IntKind.wrap .u8 (shrI .i64 x (8 * i)) = byt x (8 * i) := rfl
  simp only [ref01_Put.l0, ref01_Put.s0, show i ≥ 0 from h0, decide_true, cond_true, e1, show ¬ 8 * i < 0 by omega, decide_false, Bool.not_false, c2, c1, e2]
theorem ref_stop (n m : Nat) (x : Int) (out : List Int) : ref01_Put.l0 n x (m + 1) out (-1) = some out := rfl

theorem ref_eq (k : Nat) (b : List Int) (x size : Int) (hL : b.length ≤ 10000) : ref01_Put (k + 6) b x size = some (bif ref01_Right x size then b ++ numB x size else b) := by
  have c0 : decide ((List.length ([] : List Int) + b.length) * 1 ≤ 140737488355328) = true := by
    rw [decide_eq_true_eq]; simp; omega
  unfold ref01_Put ref01_Put.s
  simp only [c0, cond_true, obind_some, List.nil_append]
  cases h : ref01_Right x size with
  | false => rfl
  | true =>
    simp only [Bool.not_true, cond_false, cond_true]
    rcases right_size h with rfl | rfl | rfl
    · show ref01_Put.l0 (k + 6) x (k + 5 + 1) b 0 = _
      rw [ref_step _ _ _ _ _ (by omega) (by omega) (by omega)]
      exact ref_stop _ _ _ _
    · show ref01_Put.l0 (k + 6) x (k + 5 + 1) b 1 = _
      rw [ref_step _ _ _ _ _ (by omega) (by omega) (by omega)]
      show ref01_Put.l0 (k + 6) x (k + 4 + 1) (b ++ [byt x 8]) 0 = _
      rw [ref_step _ _ _ _ _ (by omega) (by omega) (by simp; omega), List.append_assoc]
      exact ref_stop _ _ _ _
    · show ref01_Put.l0 (k + 6) x (k + 5 + 1) b 3 = _
      rw [ref_step _ _ _ _ _ (by omega) (by omega) (by omega)]
      show ref01_Put.l0 (k + 6) x (k + 4 + 1) (b ++ [byt x 24]) 2 = _
      rw [ref_step _ _ _ _ _ (by omega) (by omega) (by simp; omega)]
      show ref01_Put.l0 (k + 6) x (k + 3 + 1) (b ++ [byt x 24] ++ [byt x 16]) 1 = _
      rw [ref_step _ _ _ _ _ (by omega) (by omega) (by simp; omega)]
      show ref01_Put.l0 (k + 6) x (k + 2 + 1) (b ++ [byt x 24] ++ [byt x 16] ++ [byt x 8]) 0 = _
      rw [ref_step _ _ _ _ _ (by omega) (by omega) (by simp; omega), List.append_assoc, List.append_assoc, List.append_assoc]
      exact ref_stop _ _ _ _

/-- A number behind, of so many bytes. -/
def numP (b : List Int) (x size : Int) : List Int := bif ref01_Right x size then b ++ numB x size else b
theorem numP_len (b : List Int) (x size : Int) : (numP b x size).length ≤ b.length + 4 := by
  have hbl : (numB x size).length ≤ 4 := by simp [numB]
  unfold numP
  cases ref01_Right x size <;> simp [hbl]
theorem get_in (K : Nat) (b : List Int) (p size : Int) (hb : ∀ x ∈ b, 0 ≤ x ∧ x ≤ 255) (hL : b.length ≤ 140737488351232) (hs : size = 1 ∨ size = 2 ∨ size = 4) (h0 : 0 ≤ p) (h1 : p + size ≤ b.length) :
    ∃ v, num_Get (K + 6) b p size = some (v, 0) ∧ ref01_Get (K + 6) b p size = some (v, 0) := by
  rcases num_gets K b p size hb hL (by omega) with ⟨_, _, _, h⟩ | ⟨h, _⟩
  · exact h
  · exact absurd ⟨hs, h0, h1⟩ h
theorem get_out (K : Nat) (b : List Int) (p size : Int) (hb : ∀ x ∈ b, 0 ≤ x ∧ x ≤ 255) (hL : b.length ≤ 140737488351232) (hp : -9223372036854775808 ≤ p ∧ p ≤ 9223372036854775807) (h1 : ¬ (0 ≤ p ∧ p + size ≤ b.length)) :
    ∃ e, e ≠ 0 ∧ num_Get (K + 6) b p size = some (0, e) ∧ ref01_Get (K + 6) b p size = some (0, e) := by
  rcases num_gets K b p size hb hL hp with ⟨_, h2, h3, h⟩ | ⟨_, h⟩
  · exact absurd ⟨h2, h3⟩ h1
  · exact h
theorem put_P (k : Nat) (b : List Int) (x size : Int) (hL : b.length ≤ 10000) : num_Put (k + 6) b x size = some (numP b x size) := put_eq k b x size hL
theorem ref_P (k : Nat) (b : List Int) (x size : Int) (hL : b.length ≤ 10000) : ref01_Put (k + 6) b x size = some (numP b x size) := ref_eq k b x size hL
end Go.Fn
