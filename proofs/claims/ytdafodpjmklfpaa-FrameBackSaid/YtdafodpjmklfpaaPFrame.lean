/- Messages: how bytes are cut into them. -/
import Derived.Test.YtdafodpjmklfpaaPFault
import Derived.Test.YtdafodpjmklfpaaViLoop
set_option maxRecDepth 100000
namespace Go.Fn
open Go Go.Vi

abbrev By (b : List Int) : Prop := ∀ x ∈ b, 0 ≤ x ∧ x ≤ 255
theorem sub_t {α : Type} (l : List α) (i : Nat) : sub l 0 i = l.take i := by simp [sub]
def two (b : List Int) : Int := List.getD b 2 0 * 256 + List.getD b 3 0
def saysS (b : List Int) : Int × Bool :=
  bif decide (((b.length : Nat) : Int) < 8) then (0, false) else bif decide (two b < 8) then (((b.length : Nat) : Int), true) else (two b, decide (two b ≤ ((b.length : Nat) : Int)))
theorem get2 (K : Nat) (x0 x1 x2 x3 : Int) (l : List Int) (h2 : 0 ≤ x2 ∧ x2 ≤ 255) (h3 : 0 ≤ x3 ∧ x3 ≤ 255) (hL : (x0 :: x1 :: x2 :: x3 :: l).length ≤ 140737488351232) :
    num_Get (K + 6) (x0 :: x1 :: x2 :: x3 :: l) 2 2 = some (x2 * 256 + x3, 0) := by
  have hlen : (x0 :: x1 :: x2 :: x3 :: l).length = l.length + 4 := rfl
  have e1 : IntKind.wrap .i64 ((((x0 :: x1 :: x2 :: x3 :: l).length : Nat) : Int) - 2) = (((x0 :: x1 :: x2 :: x3 :: l).length : Nat) : Int) - 2 := w64 (by omega) (by omega)
  have e2 : decide ((((x0 :: x1 :: x2 :: x3 :: l).length : Nat) : Int) - 2 < 2) = false := decide_eq_false (by omega)
  have e3 : IntKind.wrap .i64 (2 + 2) = 4 := by decide
  have e4 : decide ((4 : Int) ≤ (((x0 :: x1 :: x2 :: x3 :: l).length : Nat) : Int)) = true := decide_eq_true (by omega)
  have e5 : sub (x0 :: x1 :: x2 :: x3 :: l) (Int.toNat 2) (Int.toNat 4) = [x2, x3] := rfl
  have a0 : bitsI .or .i64 (shlI .i64 0 8) (IntKind.wrap .i64 x2) = x2 := by
    have := or_byte (n := 0) (b := x2) (by omega) (by omega) h2.1 h2.2
    rw [this]; omega
  have a1 := or_byte (n := x2) (b := x3) h2.1 (by omega) h3.1 h3.2
  simp only [num_Get, num_Get.s, show num_sized 2 = true from rfl, obind_some, Bool.not_true, beq_self_eq_true, cond_true, show decide ((2 : Int) < 0) = false from rfl, cond_false, e1, e2, e3, e4, show decide ((0 : Int) ≤ 2) = true from rfl, show decide ((2 : Int) ≤ 4) = true from rfl, Bool.and_self, e5]
  show num_Get.l0 (K + 6) [x2, x3] 2 (K + 3 + 1 + 1 + 1) 0 0 = _
  have s0 : List.getD [x2, x3] (Int.toNat 0) 0 = x2 := rfl
  have s1 : List.getD [x2, x3] (Int.toNat 1) 0 = x3 := rfl
  have i0 : inRange 0 (List.length [x2, x3]) = true := rfl
  have i1 : inRange 1 (List.length [x2, x3]) = true := rfl
  simp only [num_Get.l0, num_Get.s0, show decide ((0 : Int) < 2) = true from rfl, i0, cond_true, s0, a0, show IntKind.wrap .i64 (0 + 1) = 1 by decide, show decide ((1 : Int) < 2) = true from rfl, i1, s1, a1, show IntKind.wrap .i64 (1 + 1) = 2 by decide, show decide ((2 : Int) < 2) = false from rfl, cond_false]
theorem four {b : List Int} (h : ¬ ((b.length : Nat) : Int) < 8) : ∃ x0 x1 x2 x3 l, b = x0 :: x1 :: x2 :: x3 :: l := by
  match b, h with
  | x0 :: x1 :: x2 :: x3 :: l, _ => exact ⟨x0, x1, x2, x3, l, rfl⟩
  | [], h => exact absurd (by decide) h
  | [_], h => exact absurd (by simp) h
  | [_, _], h => exact absurd (by simp) h
  | [_, _, _], h => exact absurd (by simp) h
theorem frame_says_eq (K : Nat) (b : List Int) (hb : By b) (hL : b.length ≤ 140737488351232) : frame_says (K + 6) b = some (saysS b) := by
  unfold frame_says saysS
  by_cases h : ((b.length : Nat) : Int) < 8
  · simp only [h, decide_true, cond_true]
  · obtain ⟨x0, x1, x2, x3, l, rfl⟩ := four h
    have hg := get2 K x0 x1 x2 x3 l (hb x2 (by simp)) (hb x3 (by simp)) hL
    simp only [h, decide_false, cond_false, hg, obind_some]
    show (bif decide (x2 * 256 + x3 < 8) then _ else _) = some (bif decide (x2 * 256 + x3 < 8) then _ else _)
    cases decide (x2 * 256 + x3 < 8) <;> rfl
theorem ref16_says_eq (b : List Int) (hb : By b) (hL : b.length ≤ 140737488351232) : ref16_says b = some (saysS b) := by
  unfold ref16_says saysS
  by_cases h : ((b.length : Nat) : Int) < 8
  · simp only [h, decide_true, cond_true]
  · obtain ⟨x0, x1, x2, x3, l, rfl⟩ := four h
    obtain ⟨p1, p2⟩ := hb x2 (by simp)
    obtain ⟨q1, q2⟩ := hb x3 (by simp)
    have g2 : List.getD (x0 :: x1 :: x2 :: x3 :: l) 2 0 = x2 := rfl
    have g3 : List.getD (x0 :: x1 :: x2 :: x3 :: l) 3 0 = x3 := rfl
    have i2 : inRange 2 (x0 :: x1 :: x2 :: x3 :: l).length = true := inRange_true (by omega) (by omega)
    have i3 : inRange 3 (x0 :: x1 :: x2 :: x3 :: l).length = true := inRange_true (by omega) (by omega)
    have w2 : IntKind.wrap .i64 x2 = x2 := w64 (by omega) (by omega)
    have w3 : IntKind.wrap .i64 x3 = x3 := w64 (by omega) (by omega)
    have w4 : IntKind.wrap .i64 (x2 * 256) = x2 * 256 := w64 (by omega) (by omega)
    have w5 : IntKind.wrap .i64 (x2 * 256 + x3) = x2 * 256 + x3 := w64 (by omega) (by omega)
    simp only [h, decide_false, cond_false, i2, i3, cond_true, two, g2, g3, w2, w3, w4, w5]
    cases decide (x2 * 256 + x3 < 8) <;> rfl
theorem says_in {b : List Int} (h : (saysS b).2 = true) : 8 ≤ (saysS b).1 ∧ (saysS b).1 ≤ ((b.length : Nat) : Int) := by
  unfold saysS at h ⊢
  by_cases h1 : ((b.length : Nat) : Int) < 8
  · rw [decide_eq_true h1] at h; cases h
  · rw [decide_eq_false h1] at h ⊢
    by_cases h2 : two b < 8
    · rw [decide_eq_true h2]
      simp only [cond_false, cond_true]
      omega
    · rw [decide_eq_false h2] at h ⊢
      simp only [cond_false, decide_eq_true_eq] at h ⊢
      omega

/-! ### the pieces -/
def piecesS : Nat → List Int → List (List Int × List Int)
  | 0, _ => []
  | m + 1, b => bif (saysS b).2 then (b.take (saysS b).1.toNat, b.drop (saysS b).1.toNat) :: piecesS m (b.drop (saysS b).1.toNat) else []
def restS : Nat → List Int → List Int
  | 0, b => b
  | m + 1, b => bif (saysS b).2 then restS m (b.drop (saysS b).1.toNat) else b
theorem By.drop {b : List Int} (h : By b) (k : Nat) : By (b.drop k) := fun x hx => h x (List.mem_of_mem_drop hx)
theorem drop_less {b : List Int} (h : (saysS b).2 = true) : (b.drop (saysS b).1.toNat).length + 8 ≤ b.length := by
  have := says_in h
  rw [List.length_drop]
  omega
theorem pieces_loop (K : Nat) : ∀ (m : Nat) (b : List Int), By b → b.length ≤ 140737488351232 → b.length < 8 * m → frame_pieces_1.l0 (K + 6) m (saysS b).1 (saysS b).2 b = some (piecesS m b)
  | 0, b, _, _, h => by omega
  | m + 1, b, hb, hL, h => by
    simp only [frame_pieces_1.l0, frame_pieces_1.s0, piecesS]
    cases hok : (saysS b).2 with
    | false => rfl
    | true =>
      obtain ⟨h1, h2⟩ := says_in hok
      have hd := drop_less hok
      have e1 : decide (0 ≤ (saysS b).1) = true := decide_eq_true (by omega)
      have g1 := frame_says_eq K (b.drop (saysS b).1.toNat) (hb.drop _) (by omega)
      have g2 := pieces_loop K m (b.drop (saysS b).1.toNat) (hb.drop _) (by omega) (by omega)
      have e3 : decide ((saysS b).1 ≤ ((b.length : Nat) : Int)) = true := decide_eq_true h2
      simp only [cond_true, e1, decide_true, e3, Bool.and_self, g1, obind_some, g2, sub_t]
theorem frame_pieces_eq (K : Nat) (b : List Int) (hb : By b) (hL : b.length ≤ 140737488351232) (hn : b.length < K + 6) : frame_pieces (K + 6) b = some (piecesS (K + 6) b) := by
  simp only [frame_pieces, frame_pieces_1, frame_pieces_1.s, frame_says_eq K b hb hL, obind_some, pieces_loop K (K + 6) b hb hL (by omega)]
theorem pieces_mem : ∀ (m : Nat) (b : List Int) (p : List Int × List Int), p ∈ piecesS m b → p.1.length ≤ b.length
  | 0, _, _, h => by cases h
  | m + 1, b, p, h => by
    unfold piecesS at h
    cases hok : (saysS b).2 with
    | false => rw [hok] at h; cases h
    | true =>
      rw [hok, cond_true] at h
      rcases List.mem_cons.1 h with h | h
      · rw [h]; simp only [List.length_take]; omega
      · have := pieces_mem m _ p h
        have := drop_less hok
        omega
theorem pieces_len : ∀ (m : Nat) (b : List Int), (piecesS m b).length * 8 ≤ b.length
  | 0, _ => by simp [piecesS]
  | m + 1, b => by
    unfold piecesS
    cases hok : (saysS b).2 with
    | false => simp
    | true =>
      rw [cond_true, List.length_cons]
      have := pieces_len m (b.drop (saysS b).1.toNat)
      have := drop_less hok
      omega
theorem clone_eq {b : List Int} (h : b.length ≤ 140737488351232) : slices_Clone_byte b = some b := by
  have : decide ((List.length ([] : List Int) + b.length) * 1 ≤ 140737488355328) = true := decide_eq_true (by rw [List.length_nil]; omega)
  simp only [slices_Clone_byte, this, cond_true]
theorem split_loop (n : Nat) : ∀ l : List (List Int × List Int), (∀ p ∈ l, p.1.length ≤ 140737488351232) → frame_Split_1.l0 n l = some (l.map (·.1))
  | [], _ => rfl
  | p :: l, h => by
    simp only [frame_Split_1.l0, frame_Split_1.s0, clone_eq (h p (List.mem_cons_self ..)), obind_some, split_loop n l fun q hq => h q (List.mem_cons_of_mem _ hq), List.map_cons]
theorem frame_split_eq (K : Nat) (b : List Int) (hb : By b) (hL : b.length ≤ 140737488351232) (hn : b.length < K + 6) : frame_Split (K + 6) b = some ((piecesS (K + 6) b).map (·.1)) := by
  simp only [frame_Split, frame_Split_1, frame_Split_1.s, frame_pieces_eq K b hb hL hn, obind_some, split_loop (K + 6) _ fun p hp => Nat.le_trans (pieces_mem _ b p hp) hL]
theorem collect_loop (n : Nat) : ∀ (l s : List (List Int)), (s.length + l.length) * 24 ≤ 140737488355328 → slices_AppendSeq_Lbyte_nil.l0 n l s = some (s ++ l)
  | [], s, _ => by rw [List.append_nil]; rfl
  | x :: l, s, h => by
    rw [List.length_cons] at h
    have hd : decide ((s.length + 1) * 24 ≤ 140737488355328) = true := decide_eq_true (by omega)
    simp only [slices_AppendSeq_Lbyte_nil.l0, slices_AppendSeq_Lbyte_nil.s0, List.length_cons, List.length_nil, Nat.zero_add, hd, cond_true]
    rw [collect_loop n l (s ++ [x]) (by simp only [List.length_append, List.length_cons, List.length_nil]; omega), List.append_assoc]; rfl
theorem frame_list_eq (K : Nat) (b : List Int) (hb : By b) (hL : b.length ≤ 1000000) (hn : b.length < K + 6) : frame_List (K + 6) b = some ((piecesS (K + 6) b).map (·.1)) := by
  have := pieces_len (K + 6) b
  simp only [frame_List, frame_split_eq K b hb (by omega) hn, obind_some, slices_Collect_Lbyte, slices_AppendSeq_Lbyte_nil, slices_AppendSeq_Lbyte_nil.s]
  rw [collect_loop (K + 6) _ [] (by simp only [List.length_nil, List.length_map]; omega), List.nil_append]
  rfl
theorem rest_loop (n : Nat) : ∀ (m : Nat) (b : List Int), b.length ≤ 140737488351232 → frame_Rest.l0 n (piecesS m b) b = some (restS m b)
  | 0, b, h => by simp only [piecesS, frame_Rest.l0, frame_Rest.z0, clone_eq h, obind_some, restS]
  | m + 1, b, h => by
    unfold piecesS restS
    cases hok : (saysS b).2 with
    | false => simp only [cond_false, frame_Rest.l0, frame_Rest.z0, clone_eq h, obind_some]
    | true =>
      have := drop_less hok
      simp only [cond_true, frame_Rest.l0, frame_Rest.s0]
      exact rest_loop n m _ (by omega)
theorem frame_rest_eq (K : Nat) (b : List Int) (hb : By b) (hL : b.length ≤ 140737488351232) (hn : b.length < K + 6) : frame_Rest (K + 6) b = some (restS (K + 6) b) := by
  simp only [frame_Rest, frame_Rest.s, frame_pieces_eq K b hb hL hn, obind_some, rest_loop (K + 6) (K + 6) b hL]

/-! ### what the document says -/
theorem ref_list_loop (n : Nat) : ∀ (m : Nat) (b : List Int) (out : List (List Int)), By b → b.length < 8 * m → out.length * 8 + b.length ≤ 1000000 → ref16_List.l0 n m b out = some (out ++ (piecesS m b).map (·.1))
  | 0, b, _, _, h, _ => by omega
  | m + 1, b, out, hb, h, ho => by
    simp only [ref16_List.l0, ref16_List.s0, ref16_says_eq b hb (by omega), obind_some, piecesS]
    cases hok : (saysS b).2 with
    | false => simp only [Bool.not_false, cond_true, cond_false, List.map_nil, List.append_nil]
    | true =>
      obtain ⟨h1, h2⟩ := says_in hok
      have hd := drop_less hok
      have e1 : decide (0 ≤ (saysS b).1) = true := decide_eq_true (by omega)
      have e3 : decide ((saysS b).1 ≤ ((b.length : Nat) : Int)) = true := decide_eq_true h2
      have e4 : decide ((b.take (saysS b).1.toNat).length * 1 ≤ 140737488355328) = true := decide_eq_true (by rw [List.length_take]; omega)
      have e5 : decide ((out.length + 1) * 24 ≤ 140737488355328) = true := decide_eq_true (by omega)
      simp only [Bool.not_true, cond_false, cond_true, e1, e3, Bool.and_self, sub_t, e4, List.nil_append, List.length_cons, List.length_nil, Nat.zero_add, e5]
      rw [ref_list_loop n m _ _ (hb.drop _) (by omega) (by simp only [List.length_append, List.length_cons, List.length_nil]; omega), List.append_assoc]
      rfl
theorem ref16_list_eq (n : Nat) (b : List Int) (hb : By b) (hL : b.length ≤ 1000000) (hn : b.length < n) : ref16_List n b = some ((piecesS n b).map (·.1)) := by
  have := ref_list_loop n n b [] hb (by omega) (by simp only [List.length_nil]; omega)
  rw [List.nil_append] at this
  exact this
theorem ref_rest_loop (n : Nat) : ∀ (m : Nat) (b : List Int), By b → b.length ≤ 140737488351232 → b.length < 8 * m → ref16_Rest.l0 n m b = some (restS m b)
  | 0, b, _, _, h => by omega
  | m + 1, b, hb, hL, h => by
    simp only [ref16_Rest.l0, ref16_Rest.s0, ref16_says_eq b hb hL, obind_some, restS]
    cases hok : (saysS b).2 with
    | false =>
      have e4 : decide ((List.length ([] : List Int) + b.length) * 1 ≤ 140737488355328) = true := decide_eq_true (by rw [List.length_nil]; omega)
      simp only [Bool.not_false, cond_true, cond_false, e4, List.nil_append]
    | true =>
      obtain ⟨h1, h2⟩ := says_in hok
      have hd := drop_less hok
      have e1 : decide (0 ≤ (saysS b).1) = true := decide_eq_true (by omega)
      have e3 : decide ((saysS b).1 ≤ ((b.length : Nat) : Int)) = true := decide_eq_true h2
      simp only [Bool.not_true, cond_false, cond_true, e1, e3, Bool.and_self]
      exact ref_rest_loop n m _ (hb.drop _) (by omega) (by omega)
theorem ref16_rest_eq (n : Nat) (b : List Int) (hb : By b) (hL : b.length ≤ 140737488351232) (hn : b.length < n) : ref16_Rest n b = some (restS n b) := ref_rest_loop n n b hb hL (by omega)
end Go.Fn
