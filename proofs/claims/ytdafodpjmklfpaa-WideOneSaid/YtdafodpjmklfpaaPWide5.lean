/- The bytes of numbers, put and got. -/
import Derived.Test.YtdafodpjmklfpaaPWide2
namespace Go.Fn
open Go Go.Vi

theorem equal_byte_loop (n : Nat) (s : List Int) (hL : s.length ≤ 9223372036854775807) : ∀ (k m : Nat) (i : Int), 0 ≤ i → i + k = s.length → k < m → slices_Equal_byte.l0 n s s s.length m i = some true
  | 0, m + 1, i, _, hi, _ => by
    simp only [slices_Equal_byte.l0, slices_Equal_byte.s0, show ¬ i < (s.length : Int) by omega, decide_false, cond_false]
  | k + 1, m + 1, i, h0, hi, hm => by
    have e1 : IntKind.wrap .i64 (i + 1) = i + 1 := w64 (by omega) (by omega)
    simp only [slices_Equal_byte.l0, slices_Equal_byte.s0, show i < (s.length : Int) by omega, decide_true, cond_true, inRange_true h0 (show i < (s.length : Int) by omega), bne_self_eq_false, cond_false, e1]
    exact equal_byte_loop n s hL k m (i + 1) (by omega) (by omega) (by omega)
theorem equal_byte_self (n : Nat) (s : List Int) (hL : s.length ≤ 9223372036854775807) (hn : s.length < n) : slices_Equal_byte n s s = some true := by
  simp only [slices_Equal_byte, slices_Equal_byte.s, bne_self_eq_false, cond_false]
  exact equal_byte_loop n s hL s.length n 0 (by omega) (by omega) hn

/-- A byte of a number, the lowest one is 0. -/
def byteW (a : W128) (i : Nat) : Int := (((a >>> (8 * i)).toNat % 256 : Nat) : Int)
def bytesW (a : W128) (s : Nat) : List Int := (List.range s).reverse.map (byteW a)
theorem byte_shr (x : BitVec 64) (k : Nat) : IntKind.wrap .u8 (shrI .u64 (U x) (k : Int)) = (((x >>> k).toNat % 256 : Nat) : Int) := by
  rw [shr_U, Int.toNat_natCast]
  unfold U
  have : ∀ n : Int, IntKind.wrap .u8 n = n % 256 := fun n => by rw [IntKind.wrap_u8]
  rw [this]; omega
theorem byte_bits {n : Nat} (x : BitVec n) (k : Nat) : (x >>> k).toNat % 256 = ((x >>> k).setWidth 8).toNat := by rw [BitVec.toNat_setWidth]
theorem byte_lo (a : W128) (i : Nat) (hi : i < 8) : IntKind.wrap .u8 (shrI .u64 (Wd a).2 ((8 * i : Nat) : Int)) = byteW a i := by
  unfold Wd byteW
  rw [byte_shr, byte_bits, byte_bits]
  congr 2
  apply BitVec.eq_of_getLsbD_eq
  intro j hj
  simp only [BitVec.getLsbD_setWidth, BitVec.getLsbD_ushiftRight, BitVec.getLsbD_extractLsb', hj, decide_true, Bool.true_and, show 8 * i + j < 64 by omega, Nat.zero_add]
theorem byte_hi (a : W128) (i : Nat) : IntKind.wrap .u8 (shrI .u64 (Wd a).1 ((8 * i : Nat) : Int)) = byteW a (8 + i) := by
  unfold Wd byteW
  rw [byte_shr, byte_bits, byte_bits]
  congr 2
  apply BitVec.eq_of_getLsbD_eq
  intro j hj
  simp only [BitVec.getLsbD_setWidth, BitVec.getLsbD_ushiftRight, BitVec.getLsbD_extractLsb', hj, decide_true, Bool.true_and]
  by_cases h : 8 * i + j < 64
  · rw [decide_eq_true h, Bool.true_and]; congr 1; omega
  · rw [decide_eq_false h, Bool.false_and, BitVec.getLsbD_of_ge _ _ (by omega)]
theorem bytesW_length (a : W128) (s : Nat) : (bytesW a s).length = s := by simp [bytesW]
theorem bytesW_succ (a : W128) (s : Nat) : bytesW a (s + 1) = byteW a s :: bytesW a s := by
  unfold bytesW
  rw [List.range_succ, List.reverse_append]; rfl
theorem bytesW_drop (a : W128) : ∀ k s : Nat, (bytesW a (s + k)).drop k = bytesW a s
  | 0, _ => rfl
  | k + 1, s => by rw [show s + (k + 1) = (s + k) + 1 by omega, bytesW_succ, List.drop_succ_cons, bytesW_drop a k s]
theorem byteW_wf (a : W128) (i : Nat) : 0 ≤ byteW a i ∧ byteW a i ≤ 255 := by unfold byteW; omega

/-- The number that bytes are. -/
def getStep (acc : W128) (v : Int) : W128 := (acc <<< 8) ||| (BitVec.ofInt 64 v).setWidth 128
def getW (l : List Int) : W128 := l.foldl getStep 0
theorem get_step (x : W128) (v : Int) : (bitsI .or .u64 (shlI .u64 (Wd x).1 8) (shrI .u64 (Wd x).2 56), bitsI .or .u64 (shlI .u64 (Wd x).2 8) (IntKind.wrap .u64 v)) = Wd (getStep x v) := by
  unfold Wd getStep
  rw [shl_U, shr_U, shl_U, wrap_int, bits_or, bits_or]
  congr 2
  · apply BitVec.eq_of_getLsbD_eq
    intro i hi
    simp only [BitVec.getLsbD_or, BitVec.getLsbD_shiftLeft, BitVec.getLsbD_ushiftRight, BitVec.getLsbD_extractLsb', BitVec.getLsbD_setWidth, hi, decide_true, Bool.true_and, show 64 + i < 128 by omega, show Int.toNat 8 = 8 from rfl, show Int.toNat 56 = 56 from rfl, Nat.zero_add, show ¬ 64 + i < 8 by omega, decide_false, Bool.not_false]
    rw [BitVec.getLsbD_of_ge (BitVec.ofInt 64 v) (64 + i) (by omega), Bool.or_false]
    by_cases h : i < 8
    · rw [decide_eq_true h, decide_eq_true (show 56 + i < 64 by omega)]
      simp only [Bool.not_true, Bool.false_and, Bool.false_or, Bool.true_and]
      congr 1; omega
    · rw [decide_eq_false h, decide_eq_false (show ¬ 56 + i < 64 by omega)]
      simp only [Bool.not_false, Bool.true_and, Bool.false_and, Bool.or_false, show i - 8 < 64 by omega, decide_true]
      congr 1; omega
  · apply BitVec.eq_of_getLsbD_eq
    intro i hi
    simp only [BitVec.getLsbD_or, BitVec.getLsbD_shiftLeft, BitVec.getLsbD_extractLsb', BitVec.getLsbD_setWidth, hi, decide_true, Bool.true_and, show i < 128 by omega, show Int.toNat 8 = 8 from rfl, Nat.zero_add, show i - 8 < 64 by omega]
theorem get_bytes (a : W128) : ∀ (s : Nat) (acc : W128), (bytesW a s).foldl getStep acc = (acc <<< (8 * s)) ||| (a &&& lowW (8 * s))
  | 0, acc => by
    apply bits_ext
    intro i
    rw [BitVec.getLsbD_or, BitVec.getLsbD_and, lowW_bit]
    simp [bytesW]
  | s + 1, acc => by
    rw [bytesW_succ, List.foldl_cons, get_bytes a s]
    apply bits_ext
    intro i
    unfold getStep
    have hb : ((BitVec.ofInt 64 (byteW a s)).setWidth 128 : W128) = ((a >>> (8 * s)).setWidth 8).setWidth 128 := by
      apply BitVec.eq_of_toNat_eq
      have := byteW_wf a s
      unfold byteW at *
      rw [BitVec.toNat_setWidth, BitVec.toNat_setWidth, BitVec.toNat_setWidth, BitVec.toNat_ofInt]
      omega
    rw [hb]
    simp only [BitVec.getLsbD_or, BitVec.getLsbD_and, BitVec.getLsbD_shiftLeft, BitVec.getLsbD_setWidth, BitVec.getLsbD_ushiftRight, lowW_bit]
    by_cases h1 : i < 128
    · simp only [h1, decide_true, Bool.true_and, Bool.and_true]
      by_cases h2 : i < 8 * s
      · simp only [h2, decide_true, Bool.not_true, Bool.false_and, Bool.false_or, show i < 8 * (s + 1) by omega, Bool.and_true]
      · simp only [h2, decide_false, Bool.not_false, Bool.true_and, Bool.and_false, Bool.or_false, show i - 8 * s < 128 by omega, decide_true]
        by_cases h3 : i < 8 * (s + 1)
        · simp only [h3, decide_true, show i - 8 * s < 8 by omega, Bool.not_true, Bool.false_and, Bool.false_or, Bool.true_and, Bool.and_true]
          congr 1; omega
        · simp only [h3, decide_false, show ¬ i - 8 * s < 8 by omega, Bool.not_false, Bool.true_and, Bool.and_false, Bool.or_false, Bool.false_and]
          congr 1
    · simp only [h1, decide_false, Bool.false_and, Bool.and_false, Bool.or_false]
theorem getW_bytes (a : W128) (s : Nat) : getW (bytesW a s) = a &&& lowW (8 * s) := by
  unfold getW
  rw [get_bytes]
  simp

theorem loopN_list {α σ R : Type} (G : σ → α → σ) (d : α) (fin : σ → Option R) (l : List α) : ∀ (k i : Nat) (a : σ), i + k ≤ l.length → loopN (fun i a => .inr (G a (List.getD l i d))) fin k i a = fin (((l.drop i).take k).foldl G a)
  | 0, i, a, _ => by simp [loopN]
  | k + 1, i, a, h => by
    unfold loopN
    show loopN _ fin k (i + 1) _ = _
    have hd : l.drop i = List.getD l i d :: l.drop (i + 1) := by
      rw [List.drop_eq_getElem_cons (by omega), List.getD_eq_getElem?_getD, List.getElem?_eq_getElem (by omega)]; rfl
    rw [loopN_list G d fin l k (i + 1) _ (by omega), hd, List.take_succ_cons, List.foldl_cons]
end Go.Fn
