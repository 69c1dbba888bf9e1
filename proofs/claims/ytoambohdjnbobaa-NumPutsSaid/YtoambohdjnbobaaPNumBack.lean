/- The plain law of NumBack: a number that is put is got again. -/
import Derived.Test.YtoambohdjnbobaaPNumGets
namespace Go.Fn
open Go Go.Vi

/-- A byte of a number. -/
def byt (x y : Int) : Int := IntKind.wrap .u8 (shrI .i64 x y)
theorem byt_eq {x : Int} : byt x 0 = x % 256 ∧ byt x 8 = x / 256 % 256 ∧ byt x 16 = x / 65536 % 256 ∧ byt x 24 = x / 16777216 % 256 := by
  have f : ∀ (m : Int), IntKind.wrap .u8 m = m % 256 := fun m => by
    show m % 256 = _
    rfl
  have g : ∀ (y : Int) (k : Int), (2 : Int) ^ (min y.toNat (IntKind.bits .i64)) = k → 0 ≤ k → byt x y = x / k % 256 := fun y k h hk => by
    unfold byt shrI
    rw [f, h, Int.fdiv_eq_ediv_of_nonneg _ hk]
  refine ⟨?_, g 8 256 (by decide) (by decide), g 16 65536 (by decide) (by decide), g 24 16777216 (by decide) (by decide)⟩
  have := g 0 1 (by decide) (by decide)
  rw [this, Int.ediv_one]

theorem put_loop (n : Nat) (b : List Int) (x size : Int) : num_Put.l0 n b x size 6 0 (List.replicate 4 0) = num_Put.s0 n (fun _ _ => none) b x size 4 [byt x 24, byt x 16, byt x 8, byt x 0] := by kernel_rfl

/-- The bytes of a number of so many. -/
def bytesOf (x size : Int) : List Int := List.drop (4 - size).toNat [byt x 24, byt x 16, byt x 8, byt x 0]

theorem put_end (n : Nat) (b : List Int) (x size : Int) (hs : size = 1 ∨ size = 2 ∨ size = 4) (hL : b.length ≤ 140737488351232) : num_Put.s0 n (fun _ _ => none) b x size 4 [byt x 24, byt x 16, byt x 8, byt x 0] = some (b ++ bytesOf x size) := by
  have e1 : IntKind.wrap .i64 (4 - size) = 4 - size := w64 (by omega) (by omega)
  have e2 : sub b 0 b.length = b := by simp [sub]
  have e3 : (List.drop (4 - size).toNat [byt x 24, byt x 16, byt x 8, byt x 0]).length ≤ 4 := by simp
  simp only [num_Put.s0, show ¬ (4 : Int) < 4 by omega, decide_false, cond_false, e1, Int.toNat_natCast, e2]
  have c1 : (decide ((0 : Int) ≤ (b.length : Int)) && (decide True && decide ((b.length : Int) ≤ (b.length : Int)))) = true := by simp
  have c2 : (decide ((0 : Int) ≤ 4 - size) && decide (4 - size ≤ (([byt x 24, byt x 16, byt x 8, byt x 0] : List Int).length : Int))) = true := by
    simp only [List.length_cons, List.length_nil, Bool.and_eq_true, decide_eq_true_eq]
    omega
  have c3 : decide ((b.length + (List.drop (4 - size).toNat [byt x 24, byt x 16, byt x 8, byt x 0]).length) * 1 ≤ 140737488355328) = true := by
    rw [decide_eq_true_eq]; omega
  rw [c1, c2, c3]
  rfl

theorem right_true (x size : Int) (h : (size = 1 ∧ x < 256) ∨ (size = 2 ∧ x < 65536) ∨ (size = 4 ∧ x < 4294967296)) (h0 : 0 ≤ x) : num_Right x size = some true := by
  have g : ∀ (y k : Int), (2 : Int) ^ (min y.toNat (IntKind.bits .i64)) = k → 0 ≤ k → shrI .i64 x y = x / k := fun y k h hk => by
    unfold shrI
    rw [h, Int.fdiv_eq_ediv_of_nonneg _ hk]
  have c : decide (x ≥ 0) = true := by simpa using h0
  rcases h with ⟨rfl, h⟩ | ⟨rfl, h⟩ | ⟨rfl, h⟩
  · show (bif decide (x ≥ 0) == true then some (shrI .i64 x 8 == 0) else some false) = some true
    rw [c, g 8 256 (by decide) (by decide), show x / 256 = 0 by omega]; rfl
  · show (bif decide (x ≥ 0) == true then some (shrI .i64 x 16 == 0) else some false) = some true
    rw [c, g 16 65536 (by decide) (by decide), show x / 65536 = 0 by omega]; rfl
  · show (bif decide (x ≥ 0) == true then some (shrI .i64 x 32 == 0) else some false) = some true
    rw [c, g 32 4294967296 (by decide) (by decide), show x / 4294967296 = 0 by omega]; rfl

theorem put_right (b : List Int) (x size : Int) (h : (size = 1 ∧ x < 256) ∨ (size = 2 ∧ x < 65536) ∨ (size = 4 ∧ x < 4294967296)) (h0 : 0 ≤ x) (hL : b.length ≤ 140737488351232) : num_Put 6 b x size = some (b ++ bytesOf x size) := by
  unfold num_Put num_Put.s
  rw [right_true x size h h0]
  show num_Put.l0 6 b x size 6 0 (List.replicate 4 0) = _
  rw [put_loop, put_end 6 b x size (by omega) hL]

theorem get_put (b : List Int) (x size : Int) (h : (size = 1 ∧ x < 256) ∨ (size = 2 ∧ x < 65536) ∨ (size = 4 ∧ x < 4294967296)) (h0 : 0 ≤ x) (hL : b.length ≤ 4000) : num_Get 6 (b ++ bytesOf x size) b.length size = some (x, 0) := by
  obtain ⟨b0, b8, b16, b24⟩ := byt_eq (x := x)
  have hs : size = 1 ∨ size = 2 ∨ size = 4 := by omega
  have e1 : num_sized size = true := by rcases hs with rfl | rfl | rfl <;> rfl
  have hl : ((b ++ bytesOf x size).length : Int) = b.length + size := by
    rw [List.length_append]
    rcases hs with rfl | rfl | rfl <;> simp [bytesOf]
  have ew : IntKind.wrap .i64 ((b.length : Int) + size - b.length) = size := by rw [w64 (by omega) (by omega)]; omega
  have ea : IntKind.wrap .i64 ((b.length : Int) + size) = b.length + size := w64 (by omega) (by omega)
  have es : sub (b ++ bytesOf x size) b.length ((b.length : Int) + size).toNat = bytesOf x size := by
    unfold sub
    rw [List.take_of_length_le (by omega), List.drop_left]
  have g0 : ¬ (b.length : Int) < 0 := by omega
  have g1 : (0 : Int) ≤ b.length := by omega
  have g2 : (b.length : Int) ≤ b.length + size := by omega
  simp only [num_Get, num_Get.s, e1, obind_some, hl, g0, ew, show ¬ size < size by omega, ea, g1, g2, show (b.length : Int) + size ≤ b.length + size by omega, decide_true, decide_false, cond_true, cond_false, Bool.not_true, Bool.and_true, beq_self_eq_true, Int.toNat_natCast, es]
  rcases h with ⟨rfl, h⟩ | ⟨rfl, h⟩ | ⟨rfl, h⟩
  · show some (bitsI .or .i64 (shlI .i64 0 8) (IntKind.wrap .i64 (byt x 0)), (0 : Int)) = _
    rw [or_byte (by omega) (by omega) (by omega) (by omega), b0]
    congr 2; omega
  · show some (bitsI .or .i64 (shlI .i64 (bitsI .or .i64 (shlI .i64 0 8) (IntKind.wrap .i64 (byt x 8))) 8) (IntKind.wrap .i64 (byt x 0)), (0 : Int)) = _
    rw [or_byte (n := 0) (by omega) (by omega) (by omega) (by omega), or_byte (by omega) (by omega) (by omega) (by omega), b0, b8]
    congr 2; omega
  · show some (bitsI .or .i64 (shlI .i64 (bitsI .or .i64 (shlI .i64 (bitsI .or .i64 (shlI .i64 (bitsI .or .i64 (shlI .i64 0 8) (IntKind.wrap .i64 (byt x 24))) 8) (IntKind.wrap .i64 (byt x 16))) 8) (IntKind.wrap .i64 (byt x 8))) 8) (IntKind.wrap .i64 (byt x 0)), (0 : Int)) = _
    rw [or_byte (n := 0) (by omega) (by omega) (by omega) (by omega), or_byte (b := byt x 16) (by omega) (by omega) (by omega) (by omega), or_byte (b := byt x 8) (by omega) (by omega) (by omega) (by omega), or_byte (by omega) (by omega) (by omega) (by omega), b0, b8, b16, b24]
    congr 2; omega

theorem and_mask {a m : Nat} (ha : a < 9223372036854775808) (hm : m < 9223372036854775808) : bitsI .and .i64 (a : Int) (m : Int) = ((a &&& m : Nat) : Int) := by
  have h : (a &&& m) ≤ m := Nat.and_le_right
  show IntKind.wrap .i64 (((BitVec.ofInt 64 (a : Int)) &&& (BitVec.ofInt 64 (m : Int))).toNat : Int) = _
  rw [BitVec.ofInt_natCast, BitVec.ofInt_natCast, BitVec.toNat_and, BitVec.toNat_ofNat, BitVec.toNat_ofNat, Nat.mod_eq_of_lt (by omega), Nat.mod_eq_of_lt (by omega), w64 (by omega) (by omega)]

theorem num_back (b : List Int) (y k : Int) (hy : 0 ≤ y ∧ y ≤ 4294967295) (hk : 0 ≤ k ∧ k ≤ 255) : law01_NumBack 6 b y k = some true := by
  by_cases hL : ((b.length : Nat) : Int) > 4000
  · simp [law01_NumBack, hL, num_awake, obind_some]
  · have e0 : IntKind.wrap .i64 y = y := w64 (by omega) (by omega)
    have key : ∀ (m : Int), ((k.tmod 3 = 0 ∧ m = 255) ∨ (k.tmod 3 = 1 ∧ m = 65535) ∨ (k.tmod 3 = 2 ∧ m = 4294967295)) → ∃ x : Int, bitsI .and .i64 y m = x ∧ 0 ≤ x ∧ x ≤ m := by
      intro m hm
      obtain ⟨y, rfl⟩ := Int.eq_ofNat_of_zero_le hy.1
      obtain ⟨m, rfl⟩ := Int.eq_ofNat_of_zero_le (show 0 ≤ m by omega)
      refine ⟨_, and_mask (by omega) (by omega), by omega, ?_⟩
      have : (y &&& m) ≤ m := Nat.and_le_right
      omega
    have hk3 : k.tmod 3 = 0 ∨ k.tmod 3 = 1 ∨ k.tmod 3 = 2 := by
      rw [Int.tmod_eq_emod_of_nonneg hk.1]; omega
    have hfin : ∀ (size m : Int), ((size = 1 ∧ m = 255) ∨ (size = 2 ∧ m = 65535) ∨ (size = 4 ∧ m = 4294967295)) → ∀ x : Int, bitsI .and .i64 y m = x → 0 ≤ x → x ≤ m →
        (obind (num_Put 6 b (bitsI .and .i64 y m) size) fun r => obind (num_Get 6 r (b.length : Int) size) fun q => bif ((q.1 == bitsI .and .i64 y m) == true) then (bif ((q.2 == 0) == true) then obind (law01_awake 6) fun r => some r else some false) else some false) = some true := by
      intro size m hm x hx h0 h1
      rw [hx, put_right b x size (by omega) h0 (by omega), obind_some, get_put b x size (by omega) h0 (by omega), obind_some, num_awake]
      simp [obind_some]
    rcases hk3 with h | h | h
    · obtain ⟨x, hx, h0, h1⟩ := key 255 (by omega)
      have := hfin 1 255 (by omega) x hx h0 h1
      simp only [law01_NumBack, hL, h, e0, decide_false, cond_false]
      exact this
    · obtain ⟨x, hx, h0, h1⟩ := key 65535 (by omega)
      have := hfin 2 65535 (by omega) x hx h0 h1
      simp only [law01_NumBack, hL, h, e0, decide_false, cond_false]
      exact this
    · obtain ⟨x, hx, h0, h1⟩ := key 4294967295 (by omega)
      have := hfin 4 4294967295 (by omega) x hx h0 h1
      simp only [law01_NumBack, hL, h, e0, decide_false, cond_false]
      exact this

theorem pureNumBack : ∀ x : pdens (law01_NumBack.τs.map PTy.data), WfP law01_NumBack.τs x → ∃ n, law01_NumBack.g n x = some true := by
  rintro ⟨b, y, k⟩ ⟨hb, hy, hk⟩
  exact ⟨6, num_back b y k (wf_u32.1 hy) (wf_u8.1 hk)⟩
end Go.Fn
