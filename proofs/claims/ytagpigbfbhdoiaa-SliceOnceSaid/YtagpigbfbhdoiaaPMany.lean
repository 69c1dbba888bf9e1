/- How many bits a number has: the sums of neighbours, as the library has them. -/
import Derived.Test.YtagpigbfbhdoiaaPWide3r
import Derived.Test.YtagpigbfbhdoiaaPWide1
namespace Go.Fn
open Go Go.Vi

def pop (n x : Nat) : Nat := (List.range n).countP x.testBit
theorem land_split (h l M m : Nat) (hl : l < 256) (hm : m < 256) : (256 * h + l) &&& (256 * M + m) = 256 * (h &&& M) + (l &&& m) := by
  apply Nat.eq_of_testBit_eq
  intro i
  have hlm : l &&& m < 2 ^ 8 := Nat.and_lt_two_pow _ hm
  rw [show 256 = 2 ^ 8 from rfl, Nat.testBit_and, Nat.testBit_two_pow_mul_add _ hl, Nat.testBit_two_pow_mul_add _ hm, Nat.testBit_two_pow_mul_add _ hlm]
  by_cases hi : i < 8
  · rw [if_pos hi, if_pos hi, if_pos hi, Nat.testBit_and]
  · rw [if_neg hi, if_neg hi, if_neg hi, Nat.testBit_and]
def s1 (x M : Nat) : Nat := ((x / 2) &&& M) + (x &&& M)
def s2 (x M : Nat) : Nat := ((x / 4) &&& M) + (x &&& M)
def s4 (x M : Nat) : Nat := (x / 16 + x) &&& M
def b1 (l : Nat) : Nat := ((l / 2) &&& 85) + (l &&& 85)
def b2 (l : Nat) : Nat := ((l / 4) &&& 51) + (l &&& 51)
def b4 (l : Nat) : Nat := (l / 16 + l) &&& 15
def rep (m : Nat) : Nat → Nat
  | 0 => 0
  | n + 1 => 256 * rep m n + m

theorem small1 : ∀ l, l < 256 → b1 l < 256 ∧ b2 (b1 l) ≤ 68 ∧ b2 (b1 l) % 16 ≤ 4 ∧ b4 (b2 (b1 l)) = pop 8 l ∧ pop 8 l ≤ 8 := by decide +kernel
theorem small2 : ∀ l, l < 256 → ∀ b, b < 2 → (128 * b + l / 2) &&& 85 = (l / 2) &&& 85 := by decide +kernel
theorem small3 : ∀ l, l < 256 → ∀ b, b < 4 → (64 * b + l / 4) &&& 51 = (l / 4) &&& 51 := by decide +kernel
theorem s1_split (h l M : Nat) (hl : l < 256) : s1 (256 * h + l) (256 * M + 85) = 256 * s1 h M + b1 l := by
  unfold s1 b1
  have e : (256 * h + l) / 2 = 256 * (h / 2) + (128 * (h % 2) + l / 2) := by omega
  rw [e, land_split _ _ _ _ (by omega) (by omega), land_split _ _ _ _ hl (by omega), small2 l hl (h % 2) (by omega)]
  omega
theorem s2_split (h l M : Nat) (hl : l < 256) : s2 (256 * h + l) (256 * M + 51) = 256 * s2 h M + b2 l := by
  unfold s2 b2
  have e : (256 * h + l) / 4 = 256 * (h / 4) + (64 * (h % 4) + l / 4) := by omega
  rw [e, land_split _ _ _ _ (by omega) (by omega), land_split _ _ _ _ hl (by omega), small3 l hl (h % 4) (by omega)]
  omega
theorem s4_split (h l M : Nat) (hl : l ≤ 68) (hh : h % 16 ≤ 4) : s4 (256 * h + l) (256 * M + 15) = 256 * s4 h M + b4 l := by
  unfold s4 b4
  have e : (256 * h + l) / 16 + (256 * h + l) = 256 * (h / 16 + h) + (16 * (h % 16) + (l / 16 + l)) := by omega
  rw [e, land_split _ _ _ _ (by omega) (by omega)]
  have e2 : (16 * (h % 16) + (l / 16 + l)) &&& 15 = (l / 16 + l) &&& 15 := by
    rw [show 15 = 2 ^ 4 - 1 from rfl, Nat.and_two_pow_sub_one_eq_mod, Nat.and_two_pow_sub_one_eq_mod]; omega
  rw [e2]
def two (n x : Nat) : Nat := s2 (s1 x (rep 85 n)) (rep 51 n)
theorem two_split (n h l : Nat) (hl : l < 256) : two (n + 1) (256 * h + l) = 256 * two n h + b2 (b1 l) := by
  unfold two
  rw [rep, s1_split _ _ _ hl, rep, s2_split _ _ _ (small1 l hl).1]
theorem two_mod : ∀ n h, h < 256 ^ n → two n h % 16 ≤ 4
  | 0, h, hh => by
    have : h = 0 := by simpa using hh
    subst this
    simp [two, s2, s1, rep]
  | n + 1, h, hh => by
    have e : h = 256 * (h / 256) + h % 256 := by omega
    rw [e, two_split _ _ _ (by omega)]
    have := (small1 (h % 256) (by omega)).2.2.1
    omega
def four (n x : Nat) : Nat := s4 (two n x) (rep 15 n)
theorem four_split (n h l : Nat) (hl : l < 256) (hh : h < 256 ^ n) : four (n + 1) (256 * h + l) = 256 * four n h + pop 8 l := by
  unfold four
  have := small1 l hl
  rw [two_split _ _ _ hl, rep, s4_split _ _ _ this.2.1 (two_mod n h hh), this.2.2.2.1]
theorem pop_split (n h l : Nat) (hl : l < 256) : pop (8 + n) (256 * h + l) = pop n h + pop 8 l := by
  unfold pop
  rw [List.range_add, List.countP_append, List.countP_map, Nat.add_comm]
  congr 1
  · refine List.countP_congr fun i _ => ?_
    show Nat.testBit (256 * h + l) (8 + i) = true ↔ _
    rw [show 256 = 2 ^ 8 from rfl, Nat.testBit_two_pow_mul_add _ hl, if_neg (by omega), Nat.add_sub_cancel_left]
  · refine List.countP_congr fun i hi => ?_
    rw [show 256 = 2 ^ 8 from rfl, Nat.testBit_two_pow_mul_add _ hl, if_pos (List.mem_range.1 hi)]
theorem pop_le (n x : Nat) : pop n x ≤ n := by
  unfold pop
  exact Nat.le_trans List.countP_le_length (by simp)

/-- The sum of eight bytes' counts. -/
theorem fold_bytes (y : Nat) (p0 p1 p2 p3 p4 p5 p6 p7 : Nat) (h0 : p0 ≤ 8) (h1 : p1 ≤ 8) (h2 : p2 ≤ 8) (h3 : p3 ≤ 8) (h4 : p4 ≤ 8) (h5 : p5 ≤ 8) (h6 : p6 ≤ 8) (h7 : p7 ≤ 8)
    (hy : y = 256 * (256 * (256 * (256 * (256 * (256 * (256 * (256 * 0 + p7) + p6) + p5) + p4) + p3) + p2) + p1) + p0) :
    (y + y / 256) + (y + y / 256) / 65536 + ((y + y / 256) + (y + y / 256) / 65536) / 4294967296 < 18446744073709551616 ∧
    ((y + y / 256) + (y + y / 256) / 65536 + ((y + y / 256) + (y + y / 256) / 65536) / 4294967296) % 128 = p7 + p6 + p5 + p4 + p3 + p2 + p1 + p0 := by
  have e1 : y / 256 = 256 * (256 * (256 * (256 * (256 * (256 * p7 + p6) + p5) + p4) + p3) + p2) + p1 := by omega
  obtain ⟨z, hz⟩ : ∃ z, z = y + y / 256 := ⟨_, rfl⟩
  rw [← hz]
  have ez : z = 256 * (256 * (256 * (256 * (256 * (256 * (256 * p7 + (p6 + p7)) + (p5 + p6)) + (p4 + p5)) + (p3 + p4)) + (p2 + p3)) + (p1 + p2)) + (p0 + p1) := by omega
  have e2 : z / 65536 = 256 * (256 * (256 * (256 * (256 * p7 + (p6 + p7)) + (p5 + p6)) + (p4 + p5)) + (p3 + p4)) + (p2 + p3) := by omega
  obtain ⟨u, hu⟩ : ∃ u, u = z + z / 65536 := ⟨_, rfl⟩
  rw [← hu]
  clear hy e1 hz
  have eu : u = 4294967296 * (256 * (256 * (256 * p7 + (p6 + p7)) + (p5 + p6 + p7)) + (p4 + p5 + p6 + p7)) + (256 * (256 * (256 * (p3 + p4 + p5 + p6) + (p2 + p3 + p4 + p5)) + (p1 + p2 + p3 + p4)) + (p0 + p1 + p2 + p3)) := by omega
  have e3 : u / 4294967296 = 256 * (256 * (256 * p7 + (p6 + p7)) + (p5 + p6 + p7)) + (p4 + p5 + p6 + p7) := by omega
  clear ez e2 hu
  omega
theorem four_pop (x : Nat) (hx : x < 2 ^ 64) : (four 8 x + four 8 x / 256) + (four 8 x + four 8 x / 256) / 65536 + ((four 8 x + four 8 x / 256) + (four 8 x + four 8 x / 256) / 65536) / 4294967296 < 18446744073709551616 ∧
    ((four 8 x + four 8 x / 256) + (four 8 x + four 8 x / 256) / 65536 + ((four 8 x + four 8 x / 256) + (four 8 x + four 8 x / 256) / 65536) / 4294967296) % 128 = pop 64 x := by
  have d : ∀ z : Nat, z = 256 * (z / 256) + z % 256 := fun z => by omega
  obtain ⟨x1, hx1⟩ : ∃ x1, x1 = x / 256 := ⟨_, rfl⟩
  obtain ⟨x2, hx2⟩ : ∃ x2, x2 = x1 / 256 := ⟨_, rfl⟩
  obtain ⟨x3, hx3⟩ : ∃ x3, x3 = x2 / 256 := ⟨_, rfl⟩
  obtain ⟨x4, hx4⟩ : ∃ x4, x4 = x3 / 256 := ⟨_, rfl⟩
  obtain ⟨x5, hx5⟩ : ∃ x5, x5 = x4 / 256 := ⟨_, rfl⟩
  obtain ⟨x6, hx6⟩ : ∃ x6, x6 = x5 / 256 := ⟨_, rfl⟩
  obtain ⟨x7, hx7⟩ : ∃ x7, x7 = x6 / 256 := ⟨_, rfl⟩
  have b7 : x7 < 256 := by omega
  have c0 : four 8 x = 256 * four 7 x1 + pop 8 (x % 256) := by rw [← four_split 7 _ _ (by omega) (show x1 < 256 ^ 7 by omega), hx1, ← d]
  have c1 : four 7 x1 = 256 * four 6 x2 + pop 8 (x1 % 256) := by rw [← four_split 6 _ _ (by omega) (show x2 < 256 ^ 6 by omega), hx2, ← d]
  have c2 : four 6 x2 = 256 * four 5 x3 + pop 8 (x2 % 256) := by rw [← four_split 5 _ _ (by omega) (show x3 < 256 ^ 5 by omega), hx3, ← d]
  have c3 : four 5 x3 = 256 * four 4 x4 + pop 8 (x3 % 256) := by rw [← four_split 4 _ _ (by omega) (show x4 < 256 ^ 4 by omega), hx4, ← d]
  have c4 : four 4 x4 = 256 * four 3 x5 + pop 8 (x4 % 256) := by rw [← four_split 3 _ _ (by omega) (show x5 < 256 ^ 3 by omega), hx5, ← d]
  have c5 : four 3 x5 = 256 * four 2 x6 + pop 8 (x5 % 256) := by rw [← four_split 2 _ _ (by omega) (show x6 < 256 ^ 2 by omega), hx6, ← d]
  have c6 : four 2 x6 = 256 * four 1 x7 + pop 8 (x6 % 256) := by rw [← four_split 1 _ _ (by omega) (show x7 < 256 ^ 1 by omega), hx7, ← d]
  have c7 : four 1 x7 = 256 * 0 + pop 8 x7 := by
    have := four_split 0 0 x7 b7 (by omega)
    rw [Nat.mul_zero, Nat.zero_add, Nat.zero_add] at this
    rw [this]
    rfl
  have e0 : pop 64 x = pop 56 x1 + pop 8 (x % 256) := by rw [← pop_split 56 _ _ (by omega), hx1, ← d]
  have e1 : pop 56 x1 = pop 48 x2 + pop 8 (x1 % 256) := by rw [← pop_split 48 _ _ (by omega), hx2, ← d]
  have e2 : pop 48 x2 = pop 40 x3 + pop 8 (x2 % 256) := by rw [← pop_split 40 _ _ (by omega), hx3, ← d]
  have e3 : pop 40 x3 = pop 32 x4 + pop 8 (x3 % 256) := by rw [← pop_split 32 _ _ (by omega), hx4, ← d]
  have e4 : pop 32 x4 = pop 24 x5 + pop 8 (x4 % 256) := by rw [← pop_split 24 _ _ (by omega), hx5, ← d]
  have e5 : pop 24 x5 = pop 16 x6 + pop 8 (x5 % 256) := by rw [← pop_split 16 _ _ (by omega), hx6, ← d]
  have e6 : pop 16 x6 = pop 8 x7 + pop 8 (x6 % 256) := by rw [← pop_split 8 _ _ (by omega), hx7, ← d]
  rw [e0, e1, e2, e3, e4, e5, e6]
  refine fold_bytes (four 8 x) _ _ _ _ _ _ _ _ (pop_le 8 _) (pop_le 8 _) (pop_le 8 _) (pop_le 8 _) (pop_le 8 _) (pop_le 8 _) (pop_le 8 _) (pop_le 8 _) ?_
  rw [c0, c1, c2, c3, c4, c5, c6, c7]

theorem four_lt (x : Nat) : s1 x (rep 85 8) < 2 ^ 64 ∧ two 8 x < 2 ^ 64 ∧ two 8 x / 16 + two 8 x < 2 ^ 64 := by
  have h1 : (x / 2) &&& rep 85 8 ≤ rep 85 8 := Nat.and_le_right
  have h2 : x &&& rep 85 8 ≤ rep 85 8 := Nat.and_le_right
  have h3 : rep 85 8 = 6148914691236517205 := by decide
  have h4 : rep 51 8 = 3689348814741910323 := by decide
  have h5 : (s1 x (rep 85 8) / 4) &&& rep 51 8 ≤ rep 51 8 := Nat.and_le_right
  have h6 : s1 x (rep 85 8) &&& rep 51 8 ≤ rep 51 8 := Nat.and_le_right
  have e1 : s1 x (rep 85 8) = ((x / 2) &&& rep 85 8) + (x &&& rep 85 8) := rfl
  have e2 : two 8 x = ((s1 x (rep 85 8) / 4) &&& rep 51 8) + (s1 x (rep 85 8) &&& rep 51 8) := rfl
  omega
theorem U_nat {x : Nat} (h : x < 2 ^ 64) : (x : Int) = U (BitVec.ofNat 64 x) := by
  unfold U; rw [BitVec.toNat_ofNat, Nat.mod_eq_of_lt h]
theorem and_nat {x y : Nat} (hx : x < 2 ^ 64) (hy : y < 2 ^ 64) : bitsI .and .u64 (x : Int) (y : Int) = ((x &&& y : Nat) : Int) := by
  rw [U_nat hx, U_nat hy, bits_and]
  unfold U
  rw [BitVec.toNat_and, BitVec.toNat_ofNat, BitVec.toNat_ofNat, Nat.mod_eq_of_lt hx, Nat.mod_eq_of_lt hy]
theorem shr_nat {x : Nat} (hx : x < 2 ^ 64) (k : Nat) : shrI .u64 (x : Int) (k : Int) = ((x / 2 ^ k : Nat) : Int) := by
  rw [U_nat hx, shr_U]
  unfold U
  rw [BitVec.toNat_ushiftRight, BitVec.toNat_ofNat, Nat.mod_eq_of_lt hx, Int.toNat_natCast, Nat.shiftRight_eq_div_pow]
theorem low7 (v : Nat) (h : v < 2 ^ 64) : bitsI .and .i64 (IntKind.wrap .i64 (v : Int)) 127 = ((v % 128 : Nat) : Int) := by
  have hw : BitVec.ofInt 64 (IntKind.wrap .i64 (v : Int)) = BitVec.ofNat 64 v := by
    apply BitVec.eq_of_toNat_eq
    rw [BitVec.toNat_ofInt, BitVec.toNat_ofNat, IntKind.wrap_i64]
    omega
  have h127 : (BitVec.ofInt 64 127).toNat = 2 ^ 7 - 1 := by decide
  have e : ((BitVec.ofInt 64 (IntKind.wrap .i64 (v : Int))) &&& (BitVec.ofInt 64 127)).toNat = v % 128 := by
    rw [hw, BitVec.toNat_and, BitVec.toNat_ofNat, Nat.mod_eq_of_lt h, h127, Nat.and_two_pow_sub_one_eq_mod]
  have e2 : bitsI .and .i64 (IntKind.wrap .i64 (v : Int)) 127 = IntKind.wrap .i64 (((BitVec.ofInt 64 (IntKind.wrap .i64 (v : Int))) &&& (BitVec.ofInt 64 127)).toNat : Int) := rfl
  rw [e2, e]
  exact w64 (by omega) (by omega)
theorem ones1 (x m : Nat) (hx : x < 2 ^ 64) (hm : m < 2 ^ 64) (h : (x / 2 &&& m) + (x &&& m) < 2 ^ 64) : IntKind.wrap .u64 ((bitsI .and .u64 (shrI .u64 (x : Int) 1) (m : Int)) + (bitsI .and .u64 (x : Int) (m : Int))) = (((x / 2 &&& m) + (x &&& m) : Nat) : Int) := by
  rw [show (1 : Int) = ((1 : Nat) : Int) from rfl, shr_nat hx, show 2 ^ 1 = 2 from rfl, and_nat (by omega) hm, and_nat hx hm, ← Int.natCast_add]
  exact wu64 (by omega) (by omega)
theorem ones2 (x m : Nat) (hx : x < 2 ^ 64) (hm : m < 2 ^ 64) (h : (x / 4 &&& m) + (x &&& m) < 2 ^ 64) : IntKind.wrap .u64 ((bitsI .and .u64 (shrI .u64 (x : Int) 2) (m : Int)) + (bitsI .and .u64 (x : Int) (m : Int))) = (((x / 4 &&& m) + (x &&& m) : Nat) : Int) := by
  rw [show (2 : Int) = ((2 : Nat) : Int) from rfl, shr_nat hx, show 2 ^ 2 = 4 from rfl, and_nat (by omega) hm, and_nat hx hm, ← Int.natCast_add]
  exact wu64 (by omega) (by omega)
theorem ones3 (z m : Nat) (hm : m < 2 ^ 64) (h : z / 16 + z < 2 ^ 64) : bitsI .and .u64 (IntKind.wrap .u64 ((shrI .u64 (z : Int) 4) + (z : Int))) (m : Int) = (((z / 16 + z) &&& m : Nat) : Int) := by
  rw [show (4 : Int) = ((4 : Nat) : Int) from rfl, shr_nat (by omega), ← Int.natCast_add, wu64 (by omega) (by omega), and_nat (by omega) hm]
theorem ones4 (f k : Nat) (h : f + f / 2 ^ k < 2 ^ 64) : IntKind.wrap .u64 ((f : Int) + (shrI .u64 (f : Int) (k : Int))) = ((f + f / 2 ^ k : Nat) : Int) := by
  have h0 := Nat.le_add_right f (f / 2 ^ k)
  rw [shr_nat (Nat.lt_of_le_of_lt h0 h), ← Int.natCast_add]
  generalize f + f / 2 ^ k = g at *
  exact wu64 (by omega) (by omega)
theorem ones (x : Nat) (hx : x < 2 ^ 64) : math_bits_OnesCount64 (x : Int) = (pop 64 x : Int) := by
  have h1 := four_lt x
  have h2 := four_pop x hx
  have c1 : (6148914691236517205 : Int) = ((rep 85 8 : Nat) : Int) := by decide
  have c2 : (3689348814741910323 : Int) = ((rep 51 8 : Nat) : Int) := by decide
  have c3 : (1085102592571150095 : Int) = ((rep 15 8 : Nat) : Int) := by decide
  have r1 : rep 85 8 < 2 ^ 64 := by decide
  have r2 : rep 51 8 < 2 ^ 64 := by decide
  have r3 : rep 15 8 < 2 ^ 64 := by decide
  unfold math_bits_OnesCount64
  rw [c1, c2, c3]
  have f1 : four 8 x = (two 8 x / 16 + two 8 x) &&& rep 15 8 := rfl
  have f2 : two 8 x = (s1 x (rep 85 8) / 4 &&& rep 51 8) + (s1 x (rep 85 8) &&& rep 51 8) := rfl
  have f3 : s1 x (rep 85 8) = (x / 2 &&& rep 85 8) + (x &&& rep 85 8) := rfl
  have e1 := ones1 x _ hx r1 (by rw [← f3]; exact h1.1)
  rw [← f3] at e1
  have e2 := ones2 _ _ h1.1 r2 (by rw [← f2]; exact h1.2.1)
  rw [← f2] at e2
  have e3 := ones3 _ _ r3 h1.2.2
  rw [← f1] at e3
  clear f1 f2 f3
  generalize four 8 x = f at *
  obtain ⟨g, hg⟩ : ∃ g, g = f + f / 256 := ⟨_, rfl⟩
  rw [← hg] at h2
  obtain ⟨u, hu⟩ : ∃ u, u = g + g / 65536 := ⟨_, rfl⟩
  rw [← hu] at h2
  obtain ⟨v, hv⟩ : ∃ v, v = u + u / 4294967296 := ⟨_, rfl⟩
  rw [← hv] at h2
  have e4 := ones4 f 8 (by show f + f / 256 < _; omega)
  rw [show f + f / 2 ^ 8 = g from hg.symm] at e4
  have e5 := ones4 g 16 (by show g + g / 65536 < _; omega)
  rw [show g + g / 2 ^ 16 = u from hu.symm] at e5
  have e6 := ones4 u 32 (by show u + u / 4294967296 < _; omega)
  rw [show u + u / 2 ^ 32 = v from hv.symm] at e6
  have e7 := low7 v h2.1
  rw [h2.2] at e7
  generalize pop 64 x = p at *
  rw [show (((8 : Nat) : Int)) = 8 from rfl] at e4
  rw [show (((16 : Nat) : Int)) = 16 from rfl] at e5
  rw [show (((32 : Nat) : Int)) = 32 from rfl] at e6
  simp only [e1, e2, e3, e4, e5, e6, e7]

/-- How many bits a number has. -/
def cnt (x : BitVec 128) : Nat := (List.range 128).countP x.getLsbD
theorem cnt_le (x : BitVec 128) : cnt x ≤ 128 := by unfold cnt; exact Nat.le_trans List.countP_le_length (by simp)
theorem cnt_split (x : BitVec 128) : pop 64 (x.extractLsb' 64 64).toNat + pop 64 (x.extractLsb' 0 64).toNat = cnt x := by
  unfold cnt pop
  have hr : List.range 128 = List.range 64 ++ List.map (64 + ·) (List.range 64) := List.range_add (n := 64) (m := 64)
  rw [hr, List.countP_append, List.countP_map, Nat.add_comm]
  congr 1
  · refine List.countP_congr fun i hi => ?_
    show (x.extractLsb' 0 64).getLsbD i = true ↔ _
    simp [List.mem_range.1 hi]
  · refine List.countP_congr fun i hi => ?_
    show (x.extractLsb' 64 64).getLsbD i = true ↔ x.getLsbD (64 + i) = true
    simp [List.mem_range.1 hi]
theorem wide_many (x : W128) : wide_Many (Wd x) = (cnt x : Int) := by
  unfold wide_Many Wd U
  simp only
  rw [ones _ (BitVec.isLt _), ones _ (BitVec.isLt _), ← cnt_split]
  have h1 := pop_le 64 (x.extractLsb' 64 64).toNat
  have h2 := pop_le 64 (x.extractLsb' 0 64).toNat
  rw [w64 (by omega) (by omega)]
  omega
end Go.Fn
namespace Go.Fn
open Go Go.Vi

theorem many_loop (x : W128) : ∀ (k i c : Nat), i + k = 128 → c ≤ i → loopN (R := Int) (fun i (s : Int) => .inr (bif hasB x ((i : Nat) : Int) then IntKind.wrap .i64 (s + 1) else s)) some k i (c : Int) = some (((c + (List.range' i k).countP x.getLsbD : Nat) : Int))
  | 0, i, c, _, _ => rfl
  | k + 1, i, c, hi, hc => by
    unfold loopN
    have hb : hasB x ((i : Nat) : Int) = x.getLsbD i := by simp [hasB]
    rw [List.range'_succ, List.countP_cons]
    simp only [hb]
    cases x.getLsbD i with
    | true =>
      rw [cond_true, w64 (by omega) (by omega)]
      have := many_loop x k (i + 1) (c + 1) (by omega) (by omega)
      rw [show ((c + 1 : Nat) : Int) = (c : Int) + 1 by omega] at this
      rw [this]; congr 2
      simp; omega
    | false =>
      rw [cond_false, many_loop x k (i + 1) c (by omega) (by omega)]; congr 2
theorem ref02_many (n : Nat) (hn : 128 < n) (x : W128) : ref02_Many n (Wd x) = some (cnt x : Int) := by
  show ref02_Many.l0 n (Wd x) n 0 0 = _
  rw [loopN_start (step := fun i (s : Int) => .inr (bif hasB x ((i : Nat) : Int) then IntKind.wrap .i64 (s + 1) else s)) (fin := some) (fun m s i => ref02_Many.l0 n (Wd x) m s i) 128
    (fun m s i hi => by
      simp only [ref02_Many.l0, ref02_Many.s0, show (i : Int) < 128 by omega, decide_true, cond_true, ref02_has, obind_some, w64 (n := (i : Int) + 1) (by omega) (by omega)]
      cases hasB x (i : Int) <;> rfl)
    (fun m s => by simp only [ref02_Many.l0, ref02_Many.s0]; rfl) hn]
  have := many_loop x 128 0 0 rfl (Nat.le_refl _)
  rw [Nat.zero_add] at this
  rw [show (0 : Int) = ((0 : Nat) : Int) from rfl, this, ← List.range_eq_range']; rfl
end Go.Fn
