/- All rules' cubes; where a header is; how many of them have it. -/
import Derived.Test.YtagpigbfbhdoiaaPSlice
set_option maxRecDepth 100000
namespace Go.Fn
open Go Go.Vi

/-! ### all rules -/
def allR (L : List Ru) (most : Int) : Nat → Nat → List (List Cu) → List (List Cu) × Int
  | 0, _, out => (out, 0)
  | k + 1, i, out => bif (ruleR L (i : Int) most).2 != 0 then ([], (ruleR L (i : Int) most).2) else allR L most k (i + 1) (out ++ [(ruleR L (i : Int) most).1])
def allS (L : List Ru) (most : Int) : List (List Cu) × Int := allR L most L.length 0 []
abbrev cuss (K : List (List Cu)) : List (List Cube) := K.map fun l => l.map cu

theorem slice_all_loop (n : Nat) (hn : 128 < n) (L : List Ru) (g : List Group) (most : Int) (hm : most ≤ 100000) (hmn : most < n) (hL : L.length ≤ 100000) (hLn : L.length < n) : ∀ (k i m : Nat) (out : List (List Cu)), i + k = L.length → k < m → out.length ≤ i →
    slice_All.l0 n most ((L.length : Nat) : Int) (L.map ru, g) m (cuss out) (i : Int) = some (cuss (allR L most k i out).1, (allR L most k i out).2)
  | 0, i, m + 1, out, hi, _, _ => by
    have hlt : ¬ (i : Int) < ((L.length : Nat) : Int) := by omega
    simp only [slice_All.l0, slice_All.s0, hlt, decide_false, cond_false, allR]
  | k + 1, i, m + 1, out, hi, hmm, ho => by
    have hlt : (i : Int) < ((L.length : Nat) : Int) := by omega
    have hw : IntKind.wrap .i64 ((i : Int) + 1) = ((i + 1 : Nat) : Int) := by rw [w64 (by omega) (by omega)]; omega
    have hc : decide (((cuss out).length + List.length ([(ruleR L (i : Int) most).1.map cu] : List (List Cube))) * 24 ≤ 140737488355328) = true := by
      rw [decide_eq_true_eq, List.length_map, List.length_cons, List.length_nil]; omega
    have e1 : cuss out ++ [(ruleR L (i : Int) most).1.map cu] = cuss (out ++ [(ruleR L (i : Int) most).1]) := by simp [cuss]
    simp only [slice_All.l0, slice_All.s0, hlt, decide_true, cond_true, slice_rule n hn L g (i : Int) most hm hmn (by omega) hLn, obind_some, allR]
    cases hb : (ruleR L (i : Int) most).2 != 0 with
    | true => simp only [cond_true, cuss, List.map_nil]
    | false =>
      simp only [cond_false, hc, cond_true, e1, hw]
      exact slice_all_loop n hn L g most hm hmn hL hLn k (i + 1) m _ (by omega) (by omega) (by rw [List.length_append, List.length_cons, List.length_nil]; omega)
theorem slice_all (n : Nat) (hn : 128 < n) (L : List Ru) (g : List Group) (most : Int) (hm : most ≤ 100000) (hmn : most < n) (hL : L.length ≤ 100000) (hLn : L.length < n) : slice_All n (L.map ru, g) most = some (cuss (allS L most).1, (allS L most).2) := by
  have := slice_all_loop n hn L g most hm hmn hL hLn L.length 0 n [] (by omega) hLn (Nat.le_refl _)
  simp only [slice_All, slice_All.s, List.length_map]
  exact this
theorem ref_all_loop (n : Nat) (hn : 128 < n) (L : List Ru) (g : List Group) (most : Int) (hm : most ≤ 100000) (hmn : most < n) (hL : L.length ≤ 100000) (hLn : L.length < n) : ∀ (k i m : Nat) (out : List (List Cu)), i + k = L.length → k < m → out.length ≤ i →
    ref49_All.l0 n most (L.map ru, g) m (cuss out) (i : Int) = some (cuss (allR L most k i out).1, (allR L most k i out).2)
  | 0, i, m + 1, out, hi, _, _ => by
    have hlt : ¬ (i : Int) < ((L.length : Nat) : Int) := by omega
    simp only [ref49_All.l0, ref49_All.s0, List.length_map, hlt, decide_false, cond_false, allR]
  | k + 1, i, m + 1, out, hi, hmm, ho => by
    have hlt : (i : Int) < ((L.length : Nat) : Int) := by omega
    have hw : IntKind.wrap .i64 ((i : Int) + 1) = ((i + 1 : Nat) : Int) := by rw [w64 (by omega) (by omega)]; omega
    have hc : decide (((cuss out).length + List.length ([(ruleR L (i : Int) most).1.map cu] : List (List Cube))) * 24 ≤ 140737488355328) = true := by
      rw [decide_eq_true_eq, List.length_map, List.length_cons, List.length_nil]; omega
    have e1 : cuss out ++ [(ruleR L (i : Int) most).1.map cu] = cuss (out ++ [(ruleR L (i : Int) most).1]) := by simp [cuss]
    have hr := ref_rule n hn L g (i : Int) most hm hmn (by omega) hLn
    unfold ref49_All.l0 ref49_All.s0
    rw [List.length_map, decide_eq_true hlt, cond_true, hr, obind_some]
    unfold allR
    cases hb : (ruleR L (i : Int) most).2 != 0 with
    | true => simp only [cond_true, cuss, List.map_nil]
    | false =>
      simp only [cond_false, hc, cond_true, e1, hw]
      exact ref_all_loop n hn L g most hm hmn hL hLn k (i + 1) m _ (by omega) (by omega) (by rw [List.length_append, List.length_cons, List.length_nil]; omega)
theorem ref_all (n : Nat) (hn : 128 < n) (L : List Ru) (g : List Group) (most : Int) (hm : most ≤ 100000) (hmn : most < n) (hL : L.length ≤ 100000) (hLn : L.length < n) : ref49_All n (L.map ru, g) most = some (cuss (allS L most).1, (allS L most).2) := by
  have := ref_all_loop n hn L g most hm hmn hL hLn L.length 0 n [] (by omega) hLn (Nat.le_refl _)
  simp only [ref49_All, ref49_All.s]
  exact this
/-- What all rules' cubes are. -/
theorem allR_spec (L : List Ru) (most : Int) : ∀ (k i : Nat) (out : List (List Cu)), ((allR L most k i out).2 = 0 ∧ (allR L most k i out).1 = out ++ (List.range' i k).map (fun (j : Nat) => (ruleR L (j : Int) most).1) ∧ ∀ j, i ≤ j → j < i + k → (ruleR L (j : Int) most).2 = 0) ∨
      ((allR L most k i out).1 = [] ∧ ∃ j, i ≤ j ∧ j < i + k ∧ (allR L most k i out).2 = (ruleR L (j : Int) most).2 ∧ (ruleR L (j : Int) most).2 ≠ 0)
  | 0, i, out => .inl ⟨rfl, by simp [allR], fun j h1 h2 => by omega⟩
  | k + 1, i, out => by
    unfold allR
    cases hb : (ruleR L (i : Int) most).2 != 0 with
    | true => exact .inr ⟨rfl, i, Nat.le_refl _, by omega, rfl, by simpa using hb⟩
    | false =>
      rw [cond_false]
      rcases allR_spec L most k (i + 1) (out ++ [(ruleR L (i : Int) most).1]) with ⟨h1, h2, h3⟩ | ⟨h1, j, h2, h3, h4⟩
      · refine .inl ⟨h1, ?_, fun j h4 h5 => ?_⟩
        · rw [h2, List.range'_succ, List.map_cons, List.append_assoc]; rfl
        · by_cases e : j = i
          · rw [e]; simpa using hb
          · exact h3 j (by omega) (by omega)
      · exact .inr ⟨h1, j, by omega, by omega, h4⟩
theorem ruleR_err (L : List Ru) (i : Nat) (hi : i < L.length) (most : Int) : (ruleR L (i : Int) most).2 = 0 ∨ (ruleR L (i : Int) most).2 = 5 := by
  unfold ruleR
  rw [decide_eq_false (show ¬ (i : Int) < 0 by omega), decide_eq_false (show ¬ (i : Int) ≥ (L.length : Int) by omega)]
  simp only [Bool.or_self, cond_false]
  cases decide (1 > most) with
  | true => exact .inr rfl
  | false =>
    rcases foldR_err most (L.take (i : Int).toNat) [cClean (L.getD (i : Int).toNat ((fun _ => (0, 0)), [])).1] with h | ⟨h, _⟩
    · exact .inl h
    · exact .inr h

/-! ### where a header is -/
def placeR (h : He) : List (List Cu) → Nat → Int × Int × Bool
  | [], _ => (0, 0, false)
  | l :: K, i => bif decide (idxF (fun c => cHas c h) l 0 < 0) then placeR h K (i + 1) else ((i : Int), idxF (fun c => cHas c h) l 0, true)
theorem index_cubes (n : Nat) (hn : 24 < n) (h : He) (L : List Cu) (hL : L.length ≤ 4611686018427387904) (hLn : L.length < n) : slices_IndexFunc_Cube n (L.map cu) (fun (x : Cube) => slice_Place_1 n x (hd h)) = some (idxF (fun c => cHas c h) L 0) := by
  have key : ∀ (l : List Cu) (i : Nat), loopL (R := Int) (fun i x (_ : Unit) => bif cHas x h then .inl (some (i : Int)) else .inr ()) (fun _ => some (-1)) i l () = some (idxF (fun c => cHas c h) l i) := by
    intro l
    induction l with
    | nil => intro i; rfl
    | cons x l ih =>
      intro i
      simp only [loopL, idxF]
      cases cHas x h with
      | true => rfl
      | false => exact ih (i + 1)
  rw [← key L 0]
  simp only [slices_IndexFunc_Cube, slices_IndexFunc_Cube.s, List.length_map]
  refine loopL_start (fun m (_ : Unit) i => slices_IndexFunc_Cube.l0 n (L.map cu) (fun (x : Cube) => slice_Place_1 n x (hd h)) ((L.length : Nat) : Int) m i) L (fun m s i x hx => ?_) (fun m s => ?_) hLn ()
  · have hg : List.getD (L.map cu) (Int.toNat (i : Int)) (List.replicate 24 ((0, 0), 0, 0)) = cu x := getD_of (by rw [List.getElem?_map, hx]; rfl)
    have hf : slice_Place_1 n (cu x) (hd h) = some (cHas x h) := by simp only [slice_Place_1, cube_has n hn, obind_some]
    simp only [slices_IndexFunc_Cube.l0, slices_IndexFunc_Cube.s0, List.length_map, lt_of hx, decide_true, cond_true, inRange_of hx, hg, hf, obind_some, succ_of hx (by omega)]
    cases cHas x h <;> rfl
  · simp only [slices_IndexFunc_Cube.l0, slices_IndexFunc_Cube.s0, Int.lt_irrefl, decide_false, cond_false]
theorem slice_place (n : Nat) (hn : 24 < n) (h : He) (K : List (List Cu)) (hK : K.length ≤ 4611686018427387904) (hKn : K.length < n) (hl : ∀ l ∈ K, l.length ≤ 4611686018427387904 ∧ l.length < n) : slice_Place n (cuss K) (hd h) = some (placeR h K 0) := by
  have key : ∀ (suf pre : List (List Cu)) (m : Nat), K = pre ++ suf → suf.length < m → slice_Place.l0 n (cuss K) ((K.length : Nat) : Int) (hd h) m ((pre.length : Nat) : Int) = some (placeR h suf pre.length) := by
    intro suf
    induction suf with
    | nil =>
      intro pre m he hm
      obtain ⟨m, rfl⟩ : ∃ k, m = k + 1 := ⟨m - 1, by simp at hm; omega⟩
      have hlt : ¬ ((pre.length : Nat) : Int) < ((K.length : Nat) : Int) := by rw [he]; simp
      simp only [slice_Place.l0, slice_Place.s0, hlt, decide_false, cond_false, placeR]
    | cons l suf ih =>
      intro pre m he hm
      obtain ⟨m, rfl⟩ : ∃ k, m = k + 1 := ⟨m - 1, by simp at hm; omega⟩
      have hlen : K.length = pre.length + suf.length + 1 := by rw [he]; simp; omega
      have hlt : ((pre.length : Nat) : Int) < ((K.length : Nat) : Int) := by omega
      have hin : inRange ((pre.length : Nat) : Int) K.length = true := inRange_true (by omega) (by omega)
      have hg : List.getD (cuss K) pre.length ([] : List Cube) = l.map cu := by
        rw [List.getD_eq_getElem?_getD, List.getElem?_map, he]; simp
      have hw : IntKind.wrap .i64 (((pre.length : Nat) : Int) + 1) = (((pre ++ [l]).length : Nat) : Int) := by rw [w64 (by omega) (by omega)]; simp
      obtain ⟨q1, q2⟩ := hl l (by rw [he]; simp)
      simp only [slice_Place.l0, slice_Place.s0, hlt, decide_true, cond_true, List.length_map, hin, Int.toNat_natCast, hg, index_cubes n hn h l q1 q2, obind_some, placeR]
      cases decide (idxF (fun c => cHas c h) l 0 < 0) with
      | true =>
        simp only [cond_true, hw]
        rw [ih (pre ++ [l]) m (by rw [he]; simp) (by simp at hm; omega), List.length_append]
        rfl
      | false => rfl
  have := key K [] n rfl hKn
  simp only [slice_Place, slice_Place.s, List.length_map]
  exact this
theorem ref_place_inner (n : Nat) (hn : 24 < n) (h : He) (K : List (List Cu)) (i : Nat) (l : List Cu) (hKi : K[i]? = some l) (hl : l.length ≤ 4611686018427387904) (k0 : List (List Cube) → Int → Header → Option (Int × Int × Bool)) : ∀ (suf pre : List Cu) (m : Nat), l = pre ++ suf → suf.length < m →
    ref49_Place.l1 n (cuss K) (i : Int) (hd h) k0 m ((pre.length : Nat) : Int) = bif decide (idxF (fun c => cHas c h) suf pre.length < 0) then k0 (cuss K) (IntKind.wrap .i64 ((i : Int) + 1)) (hd h) else some ((i : Int), idxF (fun c => cHas c h) suf pre.length, true)
  | [], pre, m + 1, he, _ => by
    have hin : inRange (i : Int) K.length = true := inRange_of hKi
    have hg : List.getD (cuss K) (Int.toNat (i : Int)) ([] : List Cube) = l.map cu := getD_of (by rw [List.getElem?_map, hKi]; rfl)
    have hlt : ¬ ((pre.length : Nat) : Int) < ((l.length : Nat) : Int) := by rw [he]; simp
    have e : decide (idxF (fun c => cHas c h) [] pre.length < 0) = true := rfl
    rw [e]
    simp only [ref49_Place.l1, ref49_Place.s1, hin, cond_true, hg, List.length_map, hlt, decide_false, cond_false]
  | x :: suf, pre, m + 1, he, hm => by
    have hlen : l.length = pre.length + suf.length + 1 := by rw [he]; simp; omega
    have hin : inRange (i : Int) (cuss K).length = true := by rw [List.length_map]; exact inRange_of hKi
    have hg : List.getD (cuss K) (Int.toNat (i : Int)) ([] : List Cube) = l.map cu := getD_of (by rw [List.getElem?_map, hKi]; rfl)
    have hlt : ((pre.length : Nat) : Int) < ((l.length : Nat) : Int) := by omega
    have hin2 : inRange ((pre.length : Nat) : Int) (l.map cu).length = true := inRange_true (by omega) (by rw [List.length_map]; omega)
    have hg2 : List.getD (l.map cu) pre.length (List.replicate 24 ((0, 0), 0, 0)) = cu x := by
      rw [List.getD_eq_getElem?_getD, List.getElem?_map, he]; simp
    have hw : IntKind.wrap .i64 (((pre.length : Nat) : Int) + 1) = (((pre ++ [x]).length : Nat) : Int) := by rw [w64 (by omega) (by omega)]; simp
    unfold ref49_Place.l1 ref49_Place.s1
    simp only [hin, cond_true, hg, hin2]
    rw [List.length_map, decide_eq_true hlt, Int.toNat_natCast, hg2, ref06_has n hn x h]
    simp only [cond_true, obind_some, idxF, hw]
    rcases Bool.eq_false_or_eq_true (cHas x h) with hx | hx
    · have e : decide (((pre.length : Nat) : Int) < 0) = false := decide_eq_false (by omega)
      simp only [hx, cond_true, e, cond_false]
    · simp only [hx, cond_false]
      have ih := ref_place_inner n hn h K i l hKi hl k0 suf (pre ++ [x]) m (by rw [he]; simp) (by simp at hm; omega)
      rw [ih, List.length_append]
      rfl
theorem ref_place (n : Nat) (hn : 24 < n) (h : He) (K : List (List Cu)) (hK : K.length ≤ 4611686018427387904) (hKn : K.length < n) (hl : ∀ l ∈ K, l.length ≤ 4611686018427387904 ∧ l.length < n) : ref49_Place n (cuss K) (hd h) = some (placeR h K 0) := by
  have key : ∀ (suf pre : List (List Cu)) (m : Nat), K = pre ++ suf → suf.length < m → ref49_Place.l0 n (cuss K) (hd h) m ((pre.length : Nat) : Int) = some (placeR h suf pre.length) := by
    intro suf
    induction suf with
    | nil =>
      intro pre m he hm
      obtain ⟨m, rfl⟩ : ∃ k, m = k + 1 := ⟨m - 1, by simp at hm; omega⟩
      have hlt : ¬ ((pre.length : Nat) : Int) < ((K.length : Nat) : Int) := by rw [he]; simp
      simp only [ref49_Place.l0, ref49_Place.s0, List.length_map, hlt, decide_false, cond_false, placeR]
    | cons l suf ih =>
      intro pre m he hm
      obtain ⟨m, rfl⟩ : ∃ k, m = k + 1 := ⟨m - 1, by simp at hm; omega⟩
      have hlen : K.length = pre.length + suf.length + 1 := by rw [he]; simp; omega
      have hlt : ((pre.length : Nat) : Int) < ((K.length : Nat) : Int) := by omega
      have hKi : K[pre.length]? = some l := by rw [he, List.getElem?_append_right (Nat.le_refl _), Nat.sub_self]; rfl
      have hw : IntKind.wrap .i64 (((pre.length : Nat) : Int) + 1) = (((pre ++ [l]).length : Nat) : Int) := by rw [w64 (by omega) (by omega)]; simp
      obtain ⟨q1, q2⟩ := hl l (by rw [he]; simp)
      have hi := ref_place_inner n hn h K pre.length l hKi q1 (fun l_1'' i'' h_1'' => ref49_Place.l0 n l_1'' h_1'' m i'') l [] n rfl q2
      rw [show (((([] : List Cu).length : Nat)) : Int) = 0 from rfl, show (([] : List Cu).length) = 0 from rfl] at hi
      unfold ref49_Place.l0 ref49_Place.s0
      rw [List.length_map, decide_eq_true hlt, cond_true]
      show ref49_Place.l1 n (cuss K) ((pre.length : Nat) : Int) (hd h) (fun l_1'' i'' h_1'' => ref49_Place.l0 n l_1'' h_1'' m i'') n 0 = _
      rw [hi]
      unfold placeR
      cases decide (idxF (fun c => cHas c h) l 0 < 0) with
      | true =>
        simp only [cond_true, hw]
        rw [ih (pre ++ [l]) m (by rw [he]; simp) (by simp at hm; omega), List.length_append]
        rfl
      | false => rfl
  have := key K [] n rfl hKn
  simp only [ref49_Place, ref49_Place.s]
  exact this

/-! ### how many have a header -/
theorem lessS_count (c : Cu) (h : He) (l : List Cu) : (lessS l c).countP (fun x => cHas x h) = bif cHas c h then 0 else l.countP (fun x => cHas x h) := by
  induction l with
  | nil => cases cHas c h <;> rfl
  | cons x l ih =>
    rw [lessS_cons, List.countP_append, ih, partsS_count, List.countP_cons]
    cases cHas c h <;> cases cHas x h <;> simp [Nat.add_comm]
theorem foldR_count (most : Int) (h : He) : ∀ (rs : List Ru) (l : List Cu), (foldR most l rs).2 = 0 → (foldR most l rs).1.countP (fun x => cHas x h) = bif rs.any (fun r => cHas r.1 h) then 0 else l.countP (fun x => cHas x h)
  | [], l, _ => rfl
  | r :: rs, l, h0 => by
    unfold foldR at h0 ⊢
    cases hb : decide (((lessS l r.1).length : Int) > most) with
    | true => rw [hb] at h0; cases h0
    | false =>
      rw [hb] at h0
      rw [cond_false] at h0 ⊢
      rw [foldR_count most h rs _ h0, lessS_count, List.any_cons]
      cases cHas r.1 h <;> cases rs.any (fun r => cHas r.1 h) <;> rfl
/-- A budget that is greater. -/
theorem foldR_more (most more : Int) (hm : most ≤ more) : ∀ (rs : List Ru) (l : List Cu), (foldR most l rs).2 = 0 → foldR more l rs = foldR most l rs
  | [], l, _ => rfl
  | r :: rs, l, h0 => by
    unfold foldR at h0 ⊢
    by_cases h1 : ((lessS l r.1).length : Int) > most
    · rw [decide_eq_true h1] at h0; cases h0
    · rw [decide_eq_false h1] at h0 ⊢
      rw [decide_eq_false (show ¬ ((lessS l r.1).length : Int) > more by omega)]
      exact foldR_more most more hm rs _ h0
end Go.Fn
