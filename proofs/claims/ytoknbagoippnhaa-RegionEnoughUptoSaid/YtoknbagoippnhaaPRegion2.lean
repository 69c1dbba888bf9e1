/- Regions: the lists of pairs, and which rule is found. -/
import Derived.Test.YtoknbagoippnhaaPRegion
set_option maxRecDepth 100000
namespace Go.Fn
open Go Go.Vi

theorem region_pairs_loop (n : Nat) : ∀ l : List Pa, region_Pairs_1.l0 n (l.map outP) = some (l.map oneP)
  | [] => rfl
  | p :: l => by
    simp only [List.map_cons, region_Pairs_1.l0, region_Pairs_1.s0, region_pairs_loop n l, obind_some]
    rfl
theorem region_pairs (n : Nat) (hn : 24 < n) (A B : List Ru) (ga gb : List Group) (hA : A.length ≤ 4611686018427387904) (hB : B.length ≤ 4611686018427387904) (hAn : A.length < n) (hBn : B.length < n) :
    region_Pairs n (A.map ru, ga) (B.map ru, gb) = some ((allP A B A.length 0).map oneP) := by
  simp only [region_Pairs, region_Pairs_1, region_Pairs_1.s, region_pairs_c n hn A B ga gb hA hB hAn hBn, obind_some, region_pairs_loop n]
theorem all_loop (n : Nat) : ∀ (l : List Pa) (out : List (List Int)), (out.length + l.length) * 16 ≤ 140737488355328 → law37_all.l0 n (l.map oneP) out = some (out ++ l.map twoP)
  | [], out, _ => by
    rw [List.map_nil, List.map_nil, List.append_nil]; rfl
  | p :: l, out, h => by
    rw [List.length_cons] at h
    have hd : decide ((out.length + 1) * 16 ≤ 140737488355328) = true := decide_eq_true (by omega)
    simp only [List.map_cons, law37_all.l0, law37_all.s0, List.length_cons, List.length_nil, Nat.zero_add, hd, cond_true]
    rw [all_loop n l _ (by simp only [List.length_append, List.length_cons, List.length_nil]; omega), List.append_assoc]
    rfl
theorem law37_all_eq (n : Nat) (hn : 24 < n) (A B : List Ru) (ga gb : List Group) (hA : A.length ≤ 8) (hB : B.length ≤ 8) : law37_all n (A.map ru, ga) (B.map ru, gb) = some ((allP A B A.length 0).map twoP) := by
  have hl := allP_len A B A.length 0
  have : A.length * B.length ≤ 8 * 8 := Nat.mul_le_mul hA hB
  simp only [law37_all, law37_all.s, region_pairs n hn A B ga gb (by omega) (by omega) (by omega) (by omega), obind_some]
  rw [all_loop n _ [] (by simp only [List.length_nil]; omega), List.nil_append]

theorem ref_row (n : Nat) (hn : 24 < n) (A B : List Ru) (ga gb : List Group) (i : Nat) (hB : B.length ≤ 8) (k0 : List (List Int) → Int → Flat → Flat → Option (List (List Int))) : ∀ (d m j : Nat) (out : List (List Int)), j + d = B.length → d < m → out.length + d ≤ 1000 →
    ref37_Pairs.l1 n (i : Int) (A.map ru, ga) (B.map ru, gb) k0 m out (j : Int) = k0 (out ++ (rowP A B i d j).map twoP) (IntKind.wrap .i64 ((i : Int) + 1)) (A.map ru, ga) (B.map ru, gb)
  | 0, m + 1, j, out, hj, hm, _ => by
    have : ¬ (j : Int) < ((B.length : Nat) : Int) := by omega
    simp only [ref37_Pairs.l1, ref37_Pairs.s1, List.length_map, this, decide_false, cond_false, rowP, List.map_nil, List.append_nil]
  | d + 1, m + 1, j, out, hj, hm, ho => by
    have hlt : (j : Int) < ((B.length : Nat) : Int) := by omega
    have hd : decide ((out.length + 1) * 16 ≤ 140737488355328) = true := decide_eq_true (by omega)
    simp only [ref37_Pairs.l1, ref37_Pairs.s1, List.length_map, hlt, decide_true, cond_true, ref37_meet n hn, obind_some, mIJ_nat, rowP, succN j (by omega), List.length_cons, List.length_nil, Nat.zero_add, hd]
    cases mN A B i j with
    | none => exact ref_row n hn A B ga gb i hB k0 d m (j + 1) out (by omega) (by omega) (by omega)
    | some mm =>
      have := ref_row n hn A B ga gb i hB k0 d m (j + 1) (out ++ [[(i : Int), (j : Int)]]) (by omega) (by omega) (by simp only [List.length_append, List.length_cons, List.length_nil]; omega)
      refine Eq.trans this ?_
      rw [List.append_assoc]; rfl
theorem ref_all (n : Nat) (hn : 24 < n) (A B : List Ru) (ga gb : List Group) (hA : A.length ≤ 8) (hB : B.length ≤ 8) : ∀ (d m i : Nat) (out : List (List Int)), i + d = A.length → d < m → out.length + d * 8 ≤ 500 →
    ref37_Pairs.l0 n (A.map ru, ga) (B.map ru, gb) m out (i : Int) = some (out ++ (allP A B d i).map twoP)
  | 0, m + 1, i, out, hj, hm, _ => by
    have : ¬ (i : Int) < ((A.length : Nat) : Int) := by omega
    simp only [ref37_Pairs.l0, ref37_Pairs.s0, List.length_map, this, decide_false, cond_false, allP, List.map_nil, List.append_nil]
  | d + 1, m + 1, i, out, hj, hm, ho => by
    have hlt : (i : Int) < ((A.length : Nat) : Int) := by omega
    simp only [ref37_Pairs.l0, ref37_Pairs.s0, List.length_map, hlt, decide_true, cond_true]
    have hr := ref_row n hn A B ga gb i hB (fun out'' i'' a_1'' b_1'' => ref37_Pairs.l0 n a_1'' b_1'' m out'' i'') B.length n 0 out (by omega) (by omega) (by omega)
    rw [show ((0 : Nat) : Int) = 0 from rfl] at hr
    have hrl := rowP_len A B i B.length 0
    rw [hr, succN i (by omega), ref_all n hn A B ga gb hA hB d m (i + 1) _ (by omega) (by omega) (by simp only [List.length_append, List.length_map]; omega), List.append_assoc]
    simp only [allP, List.map_append]
theorem ref37_pairs (n : Nat) (hn : 24 < n) (A B : List Ru) (ga gb : List Group) (hA : A.length ≤ 8) (hB : B.length ≤ 8) : ref37_Pairs n (A.map ru, ga) (B.map ru, gb) = some ((allP A B A.length 0).map twoP) := by
  have := ref_all n hn A B ga gb hA hB A.length n 0 [] (by omega) (by omega) (by simp only [List.length_nil]; omega)
  rw [List.nil_append] at this
  exact this

theorem two_get {l : List Pa} {k : Nat} {p : Pa} (h : l[k]? = some p) (d : List Int) : List.getD (l.map twoP) k d = twoP p := getD_nat (map_in h)
theorem ref37_bound (n : Nat) (hn : 128 < n) (A B : List Ru) (ga gb : List Group) (hA : A.length ≤ 8) (hB : B.length ≤ 8) : ref37_Bound n (A.map ru, ga) (B.map ru, gb) = some (regBound A B) := by
  have hl := allP_len A B A.length 0
  have hAB : A.length * B.length ≤ 8 * 8 := Nat.mul_le_mul hA hB
  have hmem := allP_mem A B A.length 0
  unfold regBound
  simp only [ref37_Bound, ref37_Bound.s, ref37_pairs n (by omega) A B ga gb hA hB, obind_some]
  generalize allP A B A.length 0 = L at hl hmem
  have key : ∀ (l : List Pa) (i : Nat) (b : Int), loopL (R := Int) (fun _ (p : Pa) (b : Int) => .inr (maxI b (boundS p.2.2 (headS A B p.1 p.2.1)))) some i l b = some (bigP A B l b) := by
    intro l
    induction l with
    | nil => intro i b; rfl
    | cons p l ih => intro i b; simp only [loopL, bigP]; exact ih (i + 1) _
  rw [← key L 0 0]
  refine loopL_start (fun m (s : Int) i => ref37_Bound.l0 n (L.map twoP) (A.map ru, ga) (B.map ru, gb) m s i) L (fun m s k p hx => ?_) (fun m s => ?_) (by omega) _
  · have hm := hmem p (List.mem_of_getElem? hx)
    obtain ⟨hi, hj⟩ := mN_lt hm
    obtain ⟨a1, a2, a3, a4, a5, a6⟩ := ahead_ref n A B p.1 p.2.1 (by omega) (by omega) (by omega) (by omega)
    have h1 : decide ((0 : Int) ≤ (p.1 : Int)) = true := decide_eq_true (by omega)
    have h3 : decide ((0 : Int) ≤ (p.2.1 : Int)) = true := decide_eq_true (by omega)
    have hh := headS_len A B p.1 p.2.1
    have e3 := ref08_bound n hn p.2.2 (headS A B p.1 p.2.1) (by omega) (by omega)
    have g1 : List.getD (twoP p) 0 0 = (p.1 : Int) := rfl
    have g2 : List.getD (twoP p) 1 0 = (p.2.1 : Int) := rfl
    simp only [ref37_Bound.l0, ref37_Bound.s0, List.length_map (f := twoP), List.length_map (f := ru), lt_of hx, decide_true, cond_true, inRange_of hx, Int.toNat_natCast, two_get hx, g1, g2, ref37_meet n (by omega), mIJ_nat, hm, outM, obind_some, h1, h3, a5, a6, Bool.and_self, a1, a2, a3, a4, e3, succ_of hx (by omega)]
  · simp only [ref37_Bound.l0, ref37_Bound.s0, List.length_map (f := twoP), Int.lt_irrefl, decide_false, cond_false]
theorem twos_same (n : Nat) (K : List Pa) (hn : K.length < n) (hK : K.length ≤ 4611686018427387904) : slices_Equal_2_int n (K.map twoP) (K.map twoP) = some true := by
  simp only [slices_Equal_2_int, slices_Equal_2_int.s, bne_self_eq_false, cond_false]
  rw [show (some true : Option Bool) = loopL (fun _ (_ : Pa) (_ : Unit) => .inr ()) (fun _ => some true) 0 K () from (loopL_skip (fun _ => some true) K 0).symm, List.length_map]
  refine loopL_start (fun m (_ : Unit) i => slices_Equal_2_int.l0 n (K.map twoP) (K.map twoP) ((K.length : Nat) : Int) m i) K (fun m s i x hx => ?_) (fun m s => ?_) hn ()
  · have hr : beqT (.arr 2 (.int .i64)) (twoP x) (twoP x) = true := beqT_refl (.arr 2 (.int .i64)) (by decide) (twoP x)
    simp only [slices_Equal_2_int.l0, slices_Equal_2_int.s0, List.length_map, lt_of hx, decide_true, cond_true, inRange_of hx, Int.toNat_natCast, two_get hx, hr, Bool.not_true, cond_false, succ_of hx (by omega)]
  · simp only [slices_Equal_2_int.l0, slices_Equal_2_int.s0, Int.lt_irrefl, decide_false, cond_false]

/-! ### which rule is found -/
def findS (g : He) : List Ru → Nat → Int × Bool
  | [], _ => (0, false)
  | x :: l, i => bif cHas x.1 g then ((i : Int), true) else findS g l (i + 1)
theorem ref36_find (n : Nat) (hn' : 24 < n) (A : List Ru) (ga : List Group) (g : He) (hA : A.length ≤ 4611686018427387904) (hn : A.length < n) : ref36_Find n (A.map ru, ga) (hd g) = some (findS g A 0) := by
  have key : ∀ (l : List Ru) (i : Nat), loopL (R := Int × Bool) (fun i x (_ : Unit) => bif cHas x.1 g then .inl (some ((i : Int), true)) else .inr ()) (fun _ => some (0, false)) i l () = some (findS g l i) := by
    intro l
    induction l with
    | nil => intro i; rfl
    | cons x l ih =>
      intro i
      simp only [loopL, findS]
      cases cHas x.1 g with
      | true => rfl
      | false => exact ih (i + 1)
  rw [← key A 0]
  simp only [ref36_Find, ref36_Find.s]
  refine loopL_start (fun m (_ : Unit) i => ref36_Find.l0 n (A.map ru, ga) (hd g) m i) A (fun m s i x hx => ?_) (fun m s => ?_) hn ()
  · simp only [ref36_Find.l0, ref36_Find.s0, List.length_map, lt_of hx, decide_true, cond_true, inRange_of hx, Int.toNat_natCast, rule_nat hx, ru, ref06_has n hn', obind_some, succ_of hx (by omega)]
    cases cHas x.1 g <;> rfl
  · simp only [ref36_Find.l0, ref36_Find.s0, List.length_map, Int.lt_irrefl, decide_false, cond_false]
theorem findS_at (g : He) : ∀ (l : List Ru) (i k : Nat) (x : Ru), l[k]? = some x → cHas x.1 g = true → (∀ y ∈ l.take k, cHas y.1 g = false) → findS g l i = (((i + k : Nat) : Int), true)
  | [], _, _, _, h, _, _ => by simp at h
  | y :: l, i, 0, x, h, hq, _ => by
    simp only [List.getElem?_cons_zero, Option.some.injEq] at h
    subst h
    simp only [findS, hq, cond_true, Nat.add_zero]
  | y :: l, i, k + 1, x, h, hq, hf => by
    rw [List.getElem?_cons_succ] at h
    have hy := hf y (by simp)
    simp only [findS, hy, cond_false]
    rw [findS_at g l (i + 1) k x h hq (fun z hz => hf z (by simp [hz])), show i + 1 + k = i + (k + 1) by omega]
theorem findS_true (g : He) : ∀ (l : List Ru) (i : Nat) (v : Int), findS g l i = (v, true) → ∃ k x, v = ((i + k : Nat) : Int) ∧ l[k]? = some x ∧ cHas x.1 g = true ∧ ∀ y ∈ l.take k, cHas y.1 g = false
  | [], _, _, h => by cases h
  | y :: l, i, v, h => by
    unfold findS at h
    cases hy : cHas y.1 g with
    | true =>
      rw [hy, cond_true] at h
      cases h
      exact ⟨0, y, rfl, rfl, hy, fun z hz => by simp at hz⟩
    | false =>
      rw [hy, cond_false] at h
      obtain ⟨k, x, h1, h2, h3, h4⟩ := findS_true g l (i + 1) v h
      refine ⟨k + 1, x, by rw [h1]; congr 1; omega, by rw [List.getElem?_cons_succ]; exact h2, h3, fun z hz => ?_⟩
      rw [List.take_succ_cons] at hz
      rcases List.mem_cons.1 hz with e | e
      · rw [e]; exact hy
      · exact h4 z e

/-! ### what is light -/
theorem few_some (n : Nat) (L : List Ru) (many : Int) (hL : L.length ≤ 4611686018427387904) (hn : L.length < n) : ∃ b, plain_Rules n (L.map ru) many = some b ∧ (b = true → ((L.length : Nat) : Int) ≤ many) := plain_rules n L many hL hn
theorem few_both (n : Nat) (A B : List Ru) (ga gb : List Group) (hA : A.length ≤ 4611686018427387904) (hB : B.length ≤ 4611686018427387904) (hAn : A.length < n) (hBn : B.length < n) :
    ∃ b, law37_few n (A.map ru, ga) (B.map ru, gb) = some b ∧ (b = true → A.length ≤ 8 ∧ B.length ≤ 8) := by
  obtain ⟨p, hp, hp'⟩ := plain_rules n A 8 hA hAn
  obtain ⟨q, hq, hq'⟩ := plain_rules n B 8 hB hBn
  cases p with
  | false => exact ⟨false, by simp only [law37_few, hp, obind_some]; rfl, fun h => by cases h⟩
  | true =>
    refine ⟨q, by simp only [law37_few, hp, hq, obind_some, beq_self_eq_true, cond_true], fun h => ?_⟩
    have := hp' rfl
    have := hq' h
    omega
theorem light_both (n : Nat) (hn : 128 < n) (A B : List Ru) (ga gb : List Group) (most : Int) (hA : A.length ≤ 4611686018427387904) (hB : B.length ≤ 4611686018427387904) (hAn : A.length < n) (hBn : B.length < n) :
    ∃ b, law37_light n (A.map ru, ga) (B.map ru, gb) most = some b ∧ (b = true → A.length ≤ 8 ∧ B.length ≤ 8) := by
  obtain ⟨p, hp, hp'⟩ := few_both n A B ga gb hA hB hAn hBn
  cases p with
  | false => exact ⟨false, by simp only [law37_light, hp, obind_some]; rfl, fun h => by cases h⟩
  | true =>
    obtain ⟨h1, h2⟩ := hp' rfl
    simp only [law37_light, hp, obind_some, beq_self_eq_true, cond_true, ref37_bound n hn A B ga gb h1 h2]
    cases decide (most ≤ 4096) with
    | true => exact ⟨true, rfl, fun _ => ⟨h1, h2⟩⟩
    | false => exact ⟨_, rfl, fun _ => ⟨h1, h2⟩⟩
end Go.Fn
