/- The plain law of NumGets: the number at a place, and the document's, are the same. -/
import Derived.Test.YtoambohdjnbobaaW
import Derived.Test.YtoambohdjnbobaaViMath
namespace Go.Fn
open Go Go.Vi

theorem num_gets_loop (n : Nat) (b : List Int) (p size : Int) (hb : ∀ x ∈ b, 0 ≤ x ∧ x ≤ 255) (h1 : 0 ≤ p) (h2 : p + size ≤ b.length) (h3 : size ≤ 4) (hL : b.length ≤ 140737488351232) (y : List Int)
    (hy : y = sub b p.toNat (p + size).toNat) (hyl : (y.length : Int) = size) :
    ∀ (k m : Nat) (i acc : Int), i + k = size → 0 ≤ i → k < m → 0 ≤ acc → acc < 256 ^ i.toNat → ∃ r, num_Get.l0 n y size m acc i = some r ∧ ref01_Get.l0 n b p size m acc i = some r
  | 0, m + 1, i, acc, hi, _, _, _, _ => by
    have : ¬ i < size := by omega
    simp only [num_Get.l0, num_Get.s0, ref01_Get.l0, ref01_Get.s0, this, decide_false, cond_false]
    exact ⟨_, rfl, rfl⟩
  | k + 1, m + 1, i, acc, hi, h0, hm, ha, hab => by
    have hlt : i < size := by omega
    have e0 : IntKind.wrap .i64 (p + i) = p + i := w64 (by omega) (by omega)
    have e1 : IntKind.wrap .i64 (i + 1) = i + 1 := w64 (by omega) (by omega)
    have hiy : i.toNat < y.length := by omega
    have hib : (p + i).toNat < b.length := by omega
    have eq : List.getD y i.toNat 0 = List.getD b (p + i).toNat 0 := by
      rw [hy, List.getD_eq_getElem?_getD, List.getD_eq_getElem?_getD]
      unfold sub
      rw [List.getElem?_drop, List.getElem?_take, if_pos (by omega)]
      congr 2
      omega
    have hx : 0 ≤ List.getD b (p + i).toNat 0 ∧ List.getD b (p + i).toNat 0 ≤ 255 := by
      rw [List.getD_eq_getElem?_getD, List.getElem?_eq_getElem hib]
      exact hb _ (List.getElem_mem hib)
    obtain ⟨x, hxe⟩ : ∃ x, List.getD b (p + i).toNat 0 = x := ⟨_, rfl⟩
    rw [hxe] at eq hx
    have hpow : (256 : Int) ^ i.toNat ≤ 16777216 := by
      have : i.toNat = 0 ∨ i.toNat = 1 ∨ i.toNat = 2 ∨ i.toNat = 3 := by omega
      rcases this with h | h | h | h <;> rw [h] <;> decide
    have eor := or_byte (n := acc) (b := x) ha (by omega) hx.1 hx.2
    have er : IntKind.wrap .i64 (IntKind.wrap .i64 (acc * 256) + IntKind.wrap .i64 x) = acc * 256 + x := by
      rw [w64 (n := acc * 256) (by omega) (by omega), w64 (n := x) (by omega) (by omega), w64 (by omega) (by omega)]
    obtain ⟨r, r1, r2⟩ := num_gets_loop n b p size hb h1 h2 h3 hL y hy hyl k m (i + 1) (acc * 256 + x) (by omega) (by omega) (by omega) (by omega) (by
      rw [show (i + 1).toNat = i.toNat + 1 by omega, Int.pow_succ]; omega)
    refine ⟨r, ?_, ?_⟩
    · simp only [num_Get.l0, num_Get.s0, hlt, decide_true, cond_true, inRange_true h0 (show i < (y.length : Int) by omega), eq, eor, e1]
      exact r1
    · simp only [ref01_Get.l0, ref01_Get.s0, hlt, decide_true, cond_true, e0, inRange_true (show 0 ≤ p + i by omega) (show p + i < (b.length : Int) by omega), hxe, er, e1]
      exact r2

theorem num_gets (b : List Int) (p size : Int) (hb : ∀ x ∈ b, 0 ≤ x ∧ x ≤ 255) (hL : b.length ≤ 140737488351232) (hp : -9223372036854775808 ≤ p ∧ p ≤ 9223372036854775807) :
    ∃ r, num_Get 6 b p size = some r ∧ ref01_Get 6 b p size = some r := by
  have key : (size = 1 ∨ size = 2 ∨ size = 4) → 0 ≤ p → p + size ≤ b.length → ∃ r, num_Get.l0 6 (sub b p.toNat (p + size).toNat) (List.length (sub b p.toNat (p + size).toNat) : Int) 6 0 0 = some r ∧ ref01_Get.l0 6 b p size 6 0 0 = some r := by
    intro hs h0 h1
    have hyl : ((sub b p.toNat (p + size).toNat).length : Int) = size := by
      unfold sub
      rw [List.length_drop, List.length_take]
      omega
    rw [hyl]
    exact num_gets_loop 6 b p size hb h0 h1 (by omega) hL _ rfl hyl size.toNat 6 0 0 (by omega) (by omega) (by omega) (by omega) (by decide)
  by_cases hs : size = 1 ∨ size = 2 ∨ size = 4
  · have e1 : num_sized size = true := by rcases hs with rfl | rfl | rfl <;> rfl
    have e2 : ∀ (α : Type) (x y z : α), (bif ((size != 1) == true) then (bif ((size != 2) == true) then (bif ((size != 4) == false) then y else x) else y) else y) = y := by
      intro α x y z
      rcases hs with rfl | rfl | rfl <;> rfl
    by_cases h0 : p < 0
    · refine ⟨(0, 1), ?_, ?_⟩
      · simp [num_Get, num_Get.s, e1, h0, obind_some]
      · simp only [ref01_Get, ref01_Get.s, h0, decide_true, cond_true]
        rcases hs with rfl | rfl | rfl <;> rfl
    · have ew : IntKind.wrap .i64 ((b.length : Int) - p) = b.length - p := w64 (by omega) (by omega)
      by_cases h1 : (b.length : Int) - p < size
      · refine ⟨(0, 3), ?_, ?_⟩
        · simp [num_Get, num_Get.s, e1, h0, ew, h1, obind_some]
        · simp only [ref01_Get, ref01_Get.s, h0, decide_false, cond_false, ew]
          by_cases h2 : p > (b.length : Int)
          · simp only [h2, decide_true]
            rcases hs with rfl | rfl | rfl <;> rfl
          · have h3 : size > (b.length : Int) - p := h1
            simp only [h2, h3, decide_true, decide_false]
            rcases hs with rfl | rfl | rfl <;> rfl
      · obtain ⟨r, r1, r2⟩ := key hs (by omega) (by omega)
        have ea : IntKind.wrap .i64 (p + size) = p + size := w64 (by omega) (by omega)
        refine ⟨r, ?_, ?_⟩
        · have g1 : (0 : Int) ≤ p := by omega
          have g2 : p ≤ p + size := by omega
          have g3 : p + size ≤ (b.length : Int) := by omega
          simp only [num_Get, num_Get.s, e1, obind_some, h0, ew, h1, ea, g1, g2, g3, decide_true, decide_false, cond_true, cond_false, Bool.not_true, Bool.and_true, beq_self_eq_true]
          exact r1
        · have h2 : ¬ p > (b.length : Int) := by omega
          have h3 : ¬ size > (b.length : Int) - p := by omega
          simp only [ref01_Get, ref01_Get.s, h0, decide_false, cond_false, ew, h2, h3]
          rcases hs with rfl | rfl | rfl <;> exact r2
  · have n1 : size ≠ 1 := by omega
    have n2 : size ≠ 2 := by omega
    have n4 : size ≠ 4 := by omega
    have b1 : (size == 1) = false := by simpa using n1
    have b2 : (size == 2) = false := by simpa using n2
    have b4 : (size == 4) = false := by simpa using n4
    refine ⟨(0, 1), ?_, ?_⟩
    · simp [num_Get, num_Get.s, num_sized, b1, b2, b4, obind_some]
    · simp [ref01_Get, ref01_Get.s, bne, b1, b2, b4]

theorem num_awake : law01_awake 6 = some true := by kernel_rfl

theorem pureNumGets : ∀ x : pdens (law01_NumGets.τs.map PTy.data), WfP law01_NumGets.τs x → ∃ n, law01_NumGets.g n x = some true := by
  rintro ⟨b, p, size⟩ ⟨hb, hp, hs⟩
  obtain ⟨h1, h2, h3⟩ := hb
  obtain ⟨r, r1, r2⟩ := num_gets b p size (fun x hx => wf_u8.1 (h3 x hx)) (by simpa [Ty.bytes] using h2) (wf_i64.1 hp)
  refine ⟨6, ?_⟩
  show law01_NumGets 6 b p size = some true
  simp [law01_NumGets, r1, r2, obind_some, num_awake]
end Go.Fn
