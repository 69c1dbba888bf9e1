/- Words of 64 bits and numbers of 128, as the natives have them: whole numbers in their range. -/
import Derived.Test.YtagpigbfbhdoiaaViMath
import Derived.Test.YtagpigbfbhdoiaaViLoop
namespace Go.Fn
open Go Go.Vi

/-- The whole number of a word. -/
def U (x : BitVec 64) : Int := (x.toNat : Int)
theorem U_ge (x : BitVec 64) : 0 ≤ U x := by unfold U; omega
theorem U_le (x : BitVec 64) : U x ≤ 18446744073709551615 := by unfold U; have := x.isLt; omega
theorem ofInt_U (x : BitVec 64) : BitVec.ofInt 64 (U x) = x := by unfold U; rw [BitVec.ofInt_natCast, BitVec.ofNat_toNat, BitVec.setWidth_eq]
theorem U_inj {x y : BitVec 64} (h : U x = U y) : x = y := by rw [← ofInt_U x, h, ofInt_U]
theorem U_ofInt {n : Int} (h1 : 0 ≤ n) (h2 : n ≤ 18446744073709551615) : U (BitVec.ofInt 64 n) = n := by
  unfold U
  rw [BitVec.toNat_ofInt]
  rw [Int.emod_eq_of_lt h1 (by omega)]
  omega
theorem wu64 {n : Int} (h1 : 0 ≤ n) (h2 : n ≤ 18446744073709551615) : IntKind.wrap .u64 n = n := by rw [IntKind.wrap_u64]; omega
theorem wrap_U (x : BitVec 64) : IntKind.wrap .u64 (x.toNat : Int) = U x := wu64 (by omega) (by have := x.isLt; omega)
theorem wrap_int (n : Int) : IntKind.wrap .u64 n = U (BitVec.ofInt 64 n) := by
  unfold U
  rw [IntKind.wrap_u64, BitVec.toNat_ofInt]
  omega
theorem bits_and (x y : BitVec 64) : bitsI .and .u64 (U x) (U y) = U (x &&& y) := by
  show IntKind.wrap .u64 ((BitVec.ofInt 64 (U x) &&& BitVec.ofInt 64 (U y)).toNat : Int) = _
  rw [ofInt_U, ofInt_U, wrap_U]
theorem bits_or (x y : BitVec 64) : bitsI .or .u64 (U x) (U y) = U (x ||| y) := by
  show IntKind.wrap .u64 ((BitVec.ofInt 64 (U x) ||| BitVec.ofInt 64 (U y)).toNat : Int) = _
  rw [ofInt_U, ofInt_U, wrap_U]
theorem bits_xor (x y : BitVec 64) : bitsI .xor .u64 (U x) (U y) = U (x ^^^ y) := by
  show IntKind.wrap .u64 ((BitVec.ofInt 64 (U x) ^^^ BitVec.ofInt 64 (U y)).toNat : Int) = _
  rw [ofInt_U, ofInt_U, wrap_U]
theorem bits_less (x y : BitVec 64) : bitsI .andNot .u64 (U x) (U y) = U (x &&& ~~~y) := by
  show IntKind.wrap .u64 ((BitVec.ofInt 64 (U x) &&& ~~~BitVec.ofInt 64 (U y)).toNat : Int) = _
  rw [ofInt_U, ofInt_U, wrap_U]
theorem shl_U (x : BitVec 64) (k : Int) : shlI .u64 (U x) k = U (x <<< k.toNat) := by
  unfold shlI
  rw [wrap_int]
  refine congrArg U ?_
  apply BitVec.eq_of_toNat_eq
  rw [BitVec.toNat_ofInt, BitVec.toNat_shiftLeft]
  show ((x.toNat : Int) * 2 ^ (min k.toNat 64) % (2 ^ 64 : Nat)).toNat = _
  rw [Nat.shiftLeft_eq]
  by_cases h : k.toNat ≤ 64
  · rw [Nat.min_eq_left h]
    have : ((x.toNat : Int) * 2 ^ k.toNat % (2 ^ 64 : Nat)) = ((x.toNat * 2 ^ k.toNat % 2 ^ 64 : Nat) : Int) := by simp
    rw [this]; rfl
  · rw [Nat.min_eq_right (by omega)]
    have e : 2 ^ k.toNat = 2 ^ 64 * 2 ^ (k.toNat - 64) := by rw [← Nat.pow_add]; congr 1; omega
    rw [e]
    have : ((x.toNat : Int) * 2 ^ 64 % (2 ^ 64 : Nat)) = 0 := by
      have : (2 : Int) ^ 64 = ((2 ^ 64 : Nat) : Int) := by decide
      rw [this]; exact Int.mul_emod_left _ _
    rw [this, ← Nat.mul_assoc, Nat.mul_comm (x.toNat) (2 ^ 64), Nat.mul_assoc, Nat.mul_mod_right]
    rfl
theorem shr_U (x : BitVec 64) (k : Int) : shrI .u64 (U x) k = U (x >>> k.toNat) := by
  unfold shrI U
  rw [BitVec.toNat_ushiftRight, Nat.shiftRight_eq_div_pow]
  show (x.toNat : Int).fdiv (2 ^ (min k.toNat 64)) = _
  rw [Int.fdiv_eq_ediv_of_nonneg _ (Int.le_of_lt (Int.pow_pos (by decide)))]
  by_cases h : k.toNat ≤ 64
  · rw [Nat.min_eq_left h]
    simp
  · rw [Nat.min_eq_right (by omega)]
    have hx := x.isLt
    rw [Nat.div_eq_of_lt (Nat.lt_of_lt_of_le hx (Nat.pow_le_pow_right (by decide) (by omega)))]
    have : (2 : Int) ^ 64 = 18446744073709551616 := by decide
    rw [this]; omega
theorem add_U (x y : BitVec 64) : IntKind.wrap .u64 (U x + U y) = U (x + y) := by
  rw [wrap_int]
  refine congrArg U ?_
  unfold U
  apply BitVec.eq_of_toNat_eq
  rw [BitVec.toNat_ofInt, BitVec.toNat_add]; omega
theorem sub_U (x y : BitVec 64) : IntKind.wrap .u64 (U x - U y) = U (x - y) := by
  rw [wrap_int]
  refine congrArg U ?_
  unfold U
  apply BitVec.eq_of_toNat_eq
  rw [BitVec.toNat_ofInt, BitVec.toNat_sub]
  have := x.isLt
  have := y.isLt
  omega
theorem U_zero (x : BitVec 64) : (U x == 0) = (x == 0#64) := by
  rw [Bool.eq_iff_iff, beq_iff_eq, beq_iff_eq]
  exact ⟨fun h => U_inj (h.trans rfl), fun h => by rw [h]; rfl⟩
theorem U_beq (x y : BitVec 64) : (U x == U y) = (x == y) := by
  rw [Bool.eq_iff_iff, beq_iff_eq, beq_iff_eq]
  exact ⟨U_inj, fun h => by rw [h]⟩

/-- A number of 128 bits as two words. -/
def Wd (x : BitVec 128) : Int × Int := (U (x.extractLsb' 64 64), U (x.extractLsb' 0 64))
def unW (a : Int × Int) : BitVec 128 := BitVec.ofInt 64 a.1 ++ BitVec.ofInt 64 a.2
theorem ext128 {x y : BitVec 128} (h1 : x.extractLsb' 64 64 = y.extractLsb' 64 64) (h2 : x.extractLsb' 0 64 = y.extractLsb' 0 64) : x = y := by
  apply BitVec.eq_of_getLsbD_eq
  intro i hi
  by_cases hl : i < 64
  · have := congrArg (fun z => z.getLsbD i) h2
    simpa [BitVec.getLsbD_extractLsb', hl] using this
  · have := congrArg (fun z => z.getLsbD (i - 64)) h1
    simp only [BitVec.getLsbD_extractLsb', show i - 64 < 64 by omega, show 64 + (i - 64) = i by omega, decide_true, Bool.true_and] at this
    exact this
theorem Wd_inj {x y : BitVec 128} (h : Wd x = Wd y) : x = y := by
  unfold Wd at h
  rw [Prod.mk.injEq] at h
  exact ext128 (U_inj h.1) (U_inj h.2)
theorem Wd_pair (a b : BitVec 64) : Wd (a ++ b) = (U a, U b) := by
  unfold Wd
  congr 2 <;>
  · apply BitVec.eq_of_getLsbD_eq
    intro i hi
    simp only [BitVec.getLsbD_extractLsb', BitVec.getLsbD_append, hi, decide_true, Bool.true_and]
    first
    | (rw [if_neg (by omega)]; congr 1; omega)
    | (rw [if_pos (by omega)]; congr 1; omega)
theorem Wd_unW {a : Int × Int} (h1 : 0 ≤ a.1 ∧ a.1 ≤ 18446744073709551615) (h2 : 0 ≤ a.2 ∧ a.2 ≤ 18446744073709551615) : Wd (unW a) = a := by
  unfold unW
  rw [Wd_pair, U_ofInt h1.1 h1.2, U_ofInt h2.1 h2.2]
theorem Wd_and (x y : BitVec 128) : (bitsI .and .u64 (Wd x).1 (Wd y).1, bitsI .and .u64 (Wd x).2 (Wd y).2) = Wd (x &&& y) := by
  unfold Wd; rw [bits_and, bits_and, BitVec.extractLsb'_and, BitVec.extractLsb'_and]
theorem Wd_or (x y : BitVec 128) : (bitsI .or .u64 (Wd x).1 (Wd y).1, bitsI .or .u64 (Wd x).2 (Wd y).2) = Wd (x ||| y) := by
  unfold Wd; rw [bits_or, bits_or, BitVec.extractLsb'_or, BitVec.extractLsb'_or]
theorem Wd_xor (x y : BitVec 128) : (bitsI .xor .u64 (Wd x).1 (Wd y).1, bitsI .xor .u64 (Wd x).2 (Wd y).2) = Wd (x ^^^ y) := by
  unfold Wd; rw [bits_xor, bits_xor, BitVec.extractLsb'_xor, BitVec.extractLsb'_xor]
theorem ext_not (x : BitVec 128) (s : Nat) (h : s + 64 ≤ 128) : (~~~x).extractLsb' s 64 = ~~~(x.extractLsb' s 64) := by
  apply BitVec.eq_of_getLsbD_eq
  intro i hi
  simp [hi, show s + i < 128 by omega]
theorem Wd_less (x y : BitVec 128) : (bitsI .andNot .u64 (Wd x).1 (Wd y).1, bitsI .andNot .u64 (Wd x).2 (Wd y).2) = Wd (x &&& ~~~y) := by
  unfold Wd; rw [bits_less, bits_less, BitVec.extractLsb'_and, BitVec.extractLsb'_and, ext_not _ _ (by omega), ext_not _ _ (by omega)]
theorem beq_pair0 (x : BitVec 128) : (x == 0#128) = (x.extractLsb' 64 64 == 0#64 && x.extractLsb' 0 64 == 0#64) := by
  rw [Bool.eq_iff_iff, Bool.and_eq_true, beq_iff_eq, beq_iff_eq, beq_iff_eq]
  exact ⟨fun h => by rw [h]; exact ⟨rfl, rfl⟩, fun h => ext128 (h.1.trans rfl) (h.2.trans rfl)⟩
theorem or_zero64 (x y : BitVec 64) : (x ||| y == 0#64) = (x == 0#64 && y == 0#64) := by
  rw [Bool.eq_iff_iff, Bool.and_eq_true, beq_iff_eq, beq_iff_eq, beq_iff_eq]
  exact BitVec.or_eq_zero_iff
theorem Wd_zero (x : BitVec 128) : (bitsI .or .u64 (Wd x).1 (Wd x).2 == 0) = (x == 0#128) := by
  unfold Wd; rw [bits_or, U_zero, beq_pair0, or_zero64]
theorem Wd_zero' (x : BitVec 128) : (bif (((Wd x).1 == 0) == true) then ((Wd x).2 == 0) else false) = (x == 0#128) := by
  unfold Wd
  rw [U_zero, U_zero, beq_pair0]
  cases (x.extractLsb' 64 64 == 0#64) <;> rfl
theorem Wd_beq (x y : BitVec 128) : beqT (.pair (.int .u64) (.int .u64)) (Wd x) (Wd y) = (x == y) := by
  show (((Wd x).1 : Int) == (Wd y).1 && ((Wd x).2 : Int) == (Wd y).2) = _
  unfold Wd
  rw [U_beq, U_beq, Bool.eq_iff_iff, Bool.and_eq_true, beq_iff_eq, beq_iff_eq, beq_iff_eq]
  exact ⟨fun h => ext128 h.1 h.2, fun h => by rw [h]; exact ⟨rfl, rfl⟩⟩
theorem Wd_wf {a : Int × Int} (h : Wf (.pair (.int .u64) (.int .u64)) a) : ∃ x, a = Wd x :=
  ⟨unW a, (Wd_unW (wf_u64.1 h.1) (wf_u64.1 h.2)).symm⟩

/-- Numbers are alike if all bits are. -/
theorem bits_ext {x y : BitVec 128} (h : ∀ i, x.getLsbD i = y.getLsbD i) : x = y := BitVec.eq_of_getLsbD_eq fun i _ => h i
theorem zero_iff (x : BitVec 128) : x = 0#128 ↔ ∀ i, x.getLsbD i = false := by
  refine ⟨fun h i => by rw [h]; simp, fun h => bits_ext fun i => by rw [h i]; simp⟩
theorem nz_iff (x : BitVec 128) : (x == 0#128) = false ↔ ∃ i, i < 128 ∧ x.getLsbD i = true := by
  constructor
  · intro h
    have hne : x ≠ 0#128 := by simpa using h
    rw [ne_eq, zero_iff] at hne
    simp only [Classical.not_forall, Bool.not_eq_false] at hne
    obtain ⟨i, hi⟩ := hne
    exact ⟨i, BitVec.lt_of_getLsbD hi, hi⟩
  · rintro ⟨i, _, hi⟩
    have : x ≠ 0#128 := fun h => by rw [h] at hi; simp at hi
    simpa using this
end Go.Fn
