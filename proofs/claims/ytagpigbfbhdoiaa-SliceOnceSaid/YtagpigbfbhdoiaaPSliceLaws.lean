/- The plain laws of chapter 49. -/
import Derived.Test.YtagpigbfbhdoiaaPSlice2
set_option maxRecDepth 100000
namespace Go.Fn
open Go Go.Vi

theorem slice_awake (k : Nat) : law49_awake (k + 140) = some true := by kernel_rfl
theorem light49 (n : Nat) (L : List Ru) (g : List Group) (most : Int) (hL : L.length * 792 ≤ 140737488355328) (hn : L.length < n) : ∃ b, law49_light n (L.map ru, g) most = some b ∧ (b = true → L.length ≤ 8 ∧ most ≤ 300) := by
  obtain ⟨b, hb, hf⟩ := few_rules n L 8 (by omega) hn
  unfold law49_light
  have hb : plain_Rules n ((L.map ru, g) : Flat).1 8 = some b := hb
  rw [hb, obind_some]
  cases b with
  | false => exact ⟨false, rfl, fun h => by cases h⟩
  | true =>
    obtain ⟨h1, h2⟩ := hf rfl
    simp only [beq_self_eq_true, cond_true]
    exact ⟨_, rfl, fun h => ⟨by omega, of_decide_eq_true h⟩⟩
theorem cuss_same (n : Nat) (K : List (List Cu)) (hK : K.length ≤ 100000) (hn : K.length < n) (hl : ∀ l ∈ K, l.length ≤ 100000 ∧ l.length < n) :
    slices_EqualFunc_LCube n (cuss K) (cuss K) (fun (x : (List Cube) × (List Cube)) => law49_same_c n x.1 x.2) = some true := by
  simp only [slices_EqualFunc_LCube, slices_EqualFunc_LCube.s, bne_self_eq_false, cond_false]
  have skip : ∀ (l : List (List Cu)) (i : Nat), loopL (R := Bool) (fun _ (_ : List Cu) (_ : Unit) => .inr ()) (fun _ => some true) i l () = some true := by
    intro l
    induction l with
    | nil => intro i; rfl
    | cons x l ih => intro i; simp only [loopL]; exact ih (i + 1)
  rw [← skip K 0, List.length_map]
  refine loopL_start (fun m (_ : Unit) i => slices_EqualFunc_LCube.l0 n (cuss K) (fun (x : (List Cube) × (List Cube)) => law49_same_c n x.1 x.2) (cuss K) ((K.length : Nat) : Int) m i) K (fun m s i x hx => ?_) (fun m s => ?_) hn ()
  · obtain ⟨q1, q2⟩ := hl x (List.mem_of_getElem? hx)
    have hg : List.getD (cuss K) (Int.toNat (i : Int)) ([] : List Cube) = x.map cu := getD_of (by rw [List.getElem?_map, hx]; rfl)
    have hr : law49_same_c n (x.map cu) (x.map cu) = some true := by simp only [law49_same_c, cube_equal n x q1 q2, obind_some]
    simp only [slices_EqualFunc_LCube.l0, slices_EqualFunc_LCube.s0, List.length_map, lt_of hx, decide_true, cond_true, inRange_of hx, hg, hr, obind_some, Bool.not_true, cond_false, succ_of hx (by omega)]
  · simp only [slices_EqualFunc_LCube.l0, slices_EqualFunc_LCube.s0, Int.lt_irrefl, decide_false, cond_false]
theorem allS_small (L : List Ru) (most : Int) (hL : L.length ≤ 8) : (allS L most).1.length ≤ 8 ∧ ∀ l ∈ (allS L most).1, (l.length : Int) ≤ max most 0 := by
  rcases allR_spec L most L.length 0 [] with ⟨_, h2, _⟩ | ⟨h1, _⟩
  · unfold allS
    rw [h2]
    refine ⟨by simp; omega, fun l hl => ?_⟩
    rw [List.nil_append, List.mem_map] at hl
    obtain ⟨j, _, rfl⟩ := hl
    exact ruleR_length L _ most
  · unfold allS
    rw [h1]
    exact ⟨by simp, fun l hl => by cases hl⟩
theorem flat_rules {f : Flat} (h : Wf TFlat f) : ∃ L : List Ru, ∃ g, f = (L.map ru, g) ∧ L.length * 792 ≤ 140737488355328 := by
  obtain ⟨a, g⟩ := f
  obtain ⟨L, hL, hl⟩ := rule_list h.1
  have hL : a = L.map ru := hL
  exact ⟨L, g, by rw [hL], hl⟩

theorem slice_tells (L : List Ru) (g : List Group) (i most : Int) (h : He) (hL : L.length * 792 ≤ 140737488355328) : law49_SliceTells ((L.length + 1000) + 140) (L.map ru, g) i most (hd h) = some true := by
  obtain ⟨b, hb, hf⟩ := light49 ((L.length + 1000) + 140) L g most hL (by omega)
  unfold law49_SliceTells
  rw [hb, obind_some]
  cases b with
  | false => simp only [Bool.not_false, cond_true, slice_awake, obind_some]
  | true =>
    obtain ⟨h8, h300⟩ := hf rfl
    have e1 := slice_rule ((L.length + 1000) + 140) (by omega) L g i most (by omega) (by omega) (by omega) (by omega)
    have e2 := ref_rule ((L.length + 1000) + 140) (by omega) L g i most (by omega) (by omega) (by omega) (by omega)
    have e3 := slice_all ((L.length + 1000) + 140) (by omega) L g most (by omega) (by omega) (by omega) (by omega)
    have e4 := ref_all ((L.length + 1000) + 140) (by omega) L g most (by omega) (by omega) (by omega) (by omega)
    have hr := ruleR_length L i most
    obtain ⟨ha1, ha2⟩ := allS_small L most h8
    have e5 := cube_equal ((L.length + 1000) + 140) (ruleR L i most).1 (by omega) (by omega)
    have e6 := cuss_same ((L.length + 1000) + 140) (allS L most).1 (by omega) (by omega) (fun l hl => by have := ha2 l hl; omega)
    have e7 := slice_place ((L.length + 1000) + 140) (by omega) h (allS L most).1 (by omega) (by omega) (fun l hl => by have := ha2 l hl; omega)
    have e8 := ref_place ((L.length + 1000) + 140) (by omega) h (allS L most).1 (by omega) (by omega) (fun l hl => by have := ha2 l hl; omega)
    simp only [Bool.not_true, cond_false, e1, e2, e3, e4, obind_some, e5, e6, e7, e8, beq_self_eq_true, bne_self_eq_false, cond_true, slice_awake]
theorem pureSliceTells : ∀ x : pdens (law49_SliceTells.τs.map PTy.data), WfP law49_SliceTells.τs x → ∃ n, law49_SliceTells.g n x = some true := by
  rintro ⟨f, i, most, h⟩ ⟨hf, hi, hm, hh⟩
  obtain ⟨L, g, rfl, hL⟩ := flat_rules hf
  obtain ⟨h, rfl⟩ := hd_wf hh
  exact ⟨(L.length + 1000) + 140, slice_tells L g i most h hL⟩

/-! ### SliceMore -/
theorem ruleR_more (L : List Ru) (i : Nat) (most more : Int) (hm : most ≤ more) (h0 : (ruleR L (i : Int) most).2 = 0) : ruleR L (i : Int) more = ruleR L (i : Int) most := by
  unfold ruleR at h0 ⊢
  cases hb : decide ((i : Int) < 0) || decide ((i : Int) ≥ (L.length : Int)) with
  | true => rw [hb] at h0; cases h0
  | false =>
    rw [hb] at h0
    rw [cond_false] at h0 ⊢
    by_cases h1 : 1 > most
    · rw [decide_eq_true h1] at h0; cases h0
    · rw [decide_eq_false h1] at h0 ⊢
      rw [decide_eq_false (show ¬ 1 > more by omega)]
      exact foldR_more most more hm _ _ h0
theorem allR_more (L : List Ru) (most more : Int) (hm : most ≤ more) : ∀ (k i : Nat) (out : List (List Cu)), (allR L most k i out).2 = 0 → allR L more k i out = allR L most k i out
  | 0, _, _, _ => rfl
  | k + 1, i, out, h0 => by
    unfold allR at h0 ⊢
    cases hb : (ruleR L (i : Int) most).2 != 0 with
    | true =>
      rw [hb] at h0
      rw [cond_true] at h0
      have h0 : (ruleR L (i : Int) most).2 = 0 := h0
      rw [h0] at hb; cases hb
    | false =>
      have h1 : (ruleR L (i : Int) most).2 = 0 := by simpa using hb
      rw [hb] at h0
      rw [ruleR_more L i most more hm h1, hb]
      exact allR_more L most more hm k (i + 1) _ h0
theorem slice_more (L : List Ru) (g : List Group) (most more : Int) (h0 : 0 ≤ most ∧ most ≤ 255) (h1 : 0 ≤ more ∧ more ≤ 255) (hL : L.length * 792 ≤ 140737488355328) : law49_SliceMore ((L.length + 1000) + 140) (L.map ru, g) most more = some true := by
  obtain ⟨b, hb, hf⟩ := light49 ((L.length + 1000) + 140) L g 0 hL (by omega)
  unfold law49_SliceMore
  rw [hb, obind_some]
  cases b with
  | false => simp only [Bool.not_false, cond_true, slice_awake, obind_some]
  | true =>
    obtain ⟨h8, _⟩ := hf rfl
    have w1 : IntKind.wrap .i64 most = most := w64 (by omega) (by omega)
    have w2 : IntKind.wrap .i64 more = more := w64 (by omega) (by omega)
    have w3 : IntKind.wrap .i64 (most + more) = most + more := w64 (by omega) (by omega)
    have e1 := slice_all ((L.length + 1000) + 140) (by omega) L g most (by omega) (by omega) (by omega) (by omega)
    have e2 := slice_all ((L.length + 1000) + 140) (by omega) L g (most + more) (by omega) (by omega) (by omega) (by omega)
    simp only [Bool.not_true, cond_false, w1, w2, w3, e1, e2, obind_some]
    cases hz : (allS L most).2 != 0 with
    | true => simp only [show (true == false) = false from rfl, cond_false, slice_awake, obind_some]
    | false =>
      have hz' : (allS L most).2 = 0 := by simpa using hz
      have e3 : allS L (most + more) = allS L most := allR_more L most (most + more) (by omega) L.length 0 [] hz'
      obtain ⟨ha1, ha2⟩ := allS_small L most h8
      have e6 := cuss_same ((L.length + 1000) + 140) (allS L most).1 (by omega) (by omega) (fun l hl => by have := ha2 l hl; omega)
      simp only [e3, hz', beq_self_eq_true, cond_true, e6, obind_some, slice_awake]
theorem pureSliceMore : ∀ x : pdens (law49_SliceMore.τs.map PTy.data), WfP law49_SliceMore.τs x → ∃ n, law49_SliceMore.g n x = some true := by
  rintro ⟨f, most, more⟩ ⟨hf, hm, hk⟩
  obtain ⟨L, g, rfl, hL⟩ := flat_rules hf
  exact ⟨(L.length + 1000) + 140, slice_more L g most more (wf_u8.1 hm) (wf_u8.1 hk) hL⟩

/-! ### SliceOnce -/
theorem idxF_at {α : Type} (q : α → Bool) : ∀ (l : List α) (k i : Nat) (x : α), l[i]? = some x → (idxF q l k = ((k + i : Nat) : Int) ↔ (l.take i).any q = false ∧ q x = true)
  | [], _, _, _, h => by cases h
  | y :: l, k, 0, x, h => by
    cases h
    unfold idxF
    cases hq : q y with
    | true => simp
    | false =>
      rw [cond_false]
      obtain ⟨h1, h2, h3⟩ := idxF_ge q l (k + 1)
      refine ⟨fun h => ?_, fun h => by cases h.2⟩
      have := (h3 (by omega)).1
      omega
  | y :: l, k, i + 1, x, h => by
    unfold idxF
    rw [List.take_succ_cons, List.any_cons]
    cases hq : q y with
    | true =>
      rw [cond_true, Bool.true_or]
      exact ⟨fun h => by omega, fun h => by cases h.1⟩
    | false =>
      rw [cond_false, Bool.false_or]
      have := idxF_at q l (k + 1) i x (by simpa using h)
      rw [show k + (i + 1) = k + 1 + i by omega]
      exact this
theorem tClean_has (t : BT) (v : W128) : tHas (tClean t) v = tHas t v := by
  rw [Bool.eq_iff_iff, tHas_iff, tHas_iff]
  refine forall_congr' fun i => ?_
  unfold tClean
  simp only [BitVec.getLsbD_and]
  cases t.1.getLsbD i <;> cases t.2.getLsbD i <;> simp
theorem cClean_has' (c : Cu) (h : He) : cHas (cClean c) h = cHas c h := by
  rw [Bool.eq_iff_iff, cHas_iff, cHas_iff]
  refine forall_congr' fun j => forall_congr' fun _ => ?_
  show tHas (tClean (c j)) (h j) = true ↔ _
  rw [tClean_has]
theorem ruleR_count (L : List Ru) (i : Nat) (x : Ru) (hx : L[i]? = some x) (most : Int) (h : He) (h0 : (ruleR L (i : Int) most).2 = 0) :
    (ruleR L (i : Int) most).1.countP (fun c => cHas c h) = bif !(L.take i).any (fun r => cHas r.1 h) && cHas x.1 h then 1 else 0 := by
  have hi := len_of hx
  unfold ruleR at h0 ⊢
  rw [decide_eq_false (show ¬ (i : Int) < 0 by omega), decide_eq_false (show ¬ (i : Int) ≥ (L.length : Int) by omega)] at h0 ⊢
  simp only [Bool.or_self, cond_false] at h0 ⊢
  have hg : L.getD (i : Int).toNat ((fun _ => (0, 0)), []) = x := getD_of hx
  cases hb : decide (1 > most) with
  | true => rw [hb] at h0; cases h0
  | false =>
    rw [hb, cond_false] at h0
    rw [cond_false, foldR_count most h _ _ h0, hg, Int.toNat_natCast, List.countP_cons, List.countP_nil, cClean_has']
    cases (L.take i).any (fun r => cHas r.1 h) <;> cases cHas x.1 h <;> rfl
theorem find_find (n : Nat) (hn : 24 < n) (L : List Ru) (g : List Group) (h : He) (hL : L.length ≤ 4611686018427387904) (hLn : L.length < n) : find_Find n (L.map ru, g) (hd h) = some (maxI (idxF (fun r => cHas r.1 h) L 0) 0, decide (idxF (fun r => cHas r.1 h) L 0 ≥ 0)) := by
  have hi := index_rules n (fun (x : Rule) => find_has_1 n x (hd h)) (fun r => cHas r.1 h) (fun x => by
    show obind (cube_Has n (cu x.1) (hd h)) _ = _
    rw [cube_has n hn, obind_some]) L hL hLn
  simp only [find_Find, find_has, obind_some]
  have hi : slices_IndexFunc_Rule n ((L.map ru, g) : Flat).1 (fun (x : Rule) => find_has_1 n x (hd h)) = some (idxF (fun r => cHas r.1 h) L 0) := hi
  rw [hi, obind_some]
theorem once_inner (n : Nat) (hn : 24 < n) (h : He) (f : Flat) (K V : List (List Cube)) (at9 : Int) (ok : Bool) (i v46 v47 : Int) (k0 : List (List Cube) → Int → Bool → List (List Cube) → Int → Int → Flat → Header → Option Bool) (l : List Cu) (hl : l.length ≤ 100000) :
    ∀ (suf pre : List Cu) (m k : Nat), l = pre ++ suf → suf.length < m → k ≤ pre.length →
      law49_SliceOnce.l1 n K at9 ok i V v46 v47 (l.map cu) ((l.length : Nat) : Int) f (hd h) k0 m (k : Int) ((pre.length : Nat) : Int) =
        law49_SliceOnce.s1 n (fun _ _ => none) k0 K at9 ok i ((k + suf.countP (fun c => cHas c h) : Nat) : Int) V v46 v47 (l.map cu) ((l.length : Nat) : Int) ((l.length : Nat) : Int) f (hd h)
  | [], pre, m + 1, k, he, _, _ => by
    have hlt : ¬ ((pre.length : Nat) : Int) < ((l.length : Nat) : Int) := by rw [he]; simp
    simp only [law49_SliceOnce.l1, law49_SliceOnce.s1, hlt, Int.lt_irrefl, decide_false, cond_false, List.countP_nil, Nat.add_zero]
  | x :: suf, pre, m + 1, k, he, hm, hk => by
    have hlen : l.length = pre.length + suf.length + 1 := by rw [he]; simp; omega
    have hlt : ((pre.length : Nat) : Int) < ((l.length : Nat) : Int) := by omega
    have hin : inRange ((pre.length : Nat) : Int) (l.map cu).length = true := inRange_true (by omega) (by rw [List.length_map]; exact hlt)
    have hg : List.getD (l.map cu) pre.length (List.replicate 24 ((0, 0), 0, 0)) = cu x := by
      rw [List.getD_eq_getElem?_getD, List.getElem?_map, he]; simp
    have hw : IntKind.wrap .i64 (((pre.length : Nat) : Int) + 1) = (((pre ++ [x]).length : Nat) : Int) := by rw [w64 (by omega) (by omega)]; simp
    have hwk : IntKind.wrap .i64 ((k : Int) + 1) = ((k + 1 : Nat) : Int) := by rw [w64 (by omega) (by omega)]; omega
    simp only [List.length_cons] at hm
    conv => lhs; rw [law49_SliceOnce.l1]; unfold law49_SliceOnce.s1
    simp only [hlt, decide_true, cond_true, hin, Int.toNat_natCast, hg, cube_has n hn, obind_some, hw, hwk]
    rcases Bool.eq_false_or_eq_true (cHas x h) with hx | hx
    · rw [hx, cond_true, once_inner n hn h f K V at9 ok i v46 v47 k0 l hl suf (pre ++ [x]) m (k + 1) (by rw [he]; simp) (by omega) (by simp; omega)]
      rw [List.countP_cons, hx]
      rw [show k + 1 + suf.countP (fun c => cHas c h) = k + (suf.countP (fun c => cHas c h) + if true = true then 1 else 0) by simp; omega]
    · rw [hx, cond_false, once_inner n hn h f K V at9 ok i v46 v47 k0 l hl suf (pre ++ [x]) m k (by rw [he]; simp) (by omega) (by simp; omega)]
      rw [List.countP_cons, hx]
      simp only [Bool.false_eq_true, if_false, Nat.add_zero]
theorem once_outer (n : Nat) (hn : 24 < n) (h : He) (L : List Ru) (g : List Group) (most : Int) (hm : most ≤ 300) (hn' : 400 < n) (haw : law49_awake n = some true) (K : List (List Cu)) (hK : K = (List.range' 0 L.length).map (fun (j : Nat) => (ruleR L (j : Int) most).1)) (h8 : L.length ≤ 8)
    (h0 : ∀ j, j < L.length → (ruleR L (j : Int) most).2 = 0) : ∀ (k i m : Nat), i + k = L.length → k < m →
    law49_SliceOnce.l0 n (cuss K) (maxI (idxF (fun r => cHas r.1 h) L 0) 0) (decide (idxF (fun r => cHas r.1 h) L 0 ≥ 0)) (cuss K) ((L.length : Nat) : Int) (L.map ru, g) (hd h) m (i : Int) = some true
  | 0, i, m + 1, hi, _ => by
    have hlt : ¬ (i : Int) < ((L.length : Nat) : Int) := by omega
    have hl : (cuss K).length = L.length := by rw [List.length_map, hK, List.length_map, List.length_range']
    simp only [law49_SliceOnce.l0, law49_SliceOnce.s0, hlt, decide_false, cond_false, hl, List.length_map, beq_self_eq_true, cond_true, haw, obind_some]
  | k + 1, i, m + 1, hi, hmm => by
    have hlt : (i : Int) < ((L.length : Nat) : Int) := by omega
    have hl : (cuss K).length = L.length := by rw [List.length_map, hK, List.length_map, List.length_range']
    have hin : inRange (i : Int) (cuss K).length = true := inRange_true (by omega) (by rw [hl]; exact hlt)
    obtain ⟨x, hx⟩ : ∃ x, L[i]? = some x := ⟨L[i]'(by omega), List.getElem?_eq_getElem (by omega)⟩
    have hKi : K[i]? = some (ruleR L (i : Int) most).1 := by
      rw [hK, List.getElem?_map, List.getElem?_range' (by omega)]
      simp
    have hg : List.getD (cuss K) (Int.toNat (i : Int)) ([] : List Cube) = (ruleR L (i : Int) most).1.map cu := getD_of (by rw [List.getElem?_map, hKi]; rfl)
    have hw : IntKind.wrap .i64 ((i : Int) + 1) = ((i + 1 : Nat) : Int) := by rw [w64 (by omega) (by omega)]; omega
    have hrl := ruleR_length L (i : Int) most
    have hc := ruleR_count L i x hx most h (h0 i (by omega))
    have hat := idxF_at (fun r : Ru => cHas r.1 h) L 0 i x hx
    have ih := once_outer n hn h L g most hm hn' haw K hK h8 h0 k (i + 1) m (by omega) (by omega)
    unfold law49_SliceOnce.l0 law49_SliceOnce.s0
    rw [decide_eq_true hlt, cond_true, hin, cond_true]
    simp only [hg, List.length_map]
    have hinner := once_inner n hn h (L.map ru, g) (cuss K) (cuss K) (maxI (idxF (fun r => cHas r.1 h) L 0) 0) (decide (idxF (fun r => cHas r.1 h) L 0 ≥ 0)) (i : Int) ((L.length : Nat) : Int) (i : Int)
      (fun l'' at9'' ok'' v45'' v46'' v47'' f_1'' h_1'' => law49_SliceOnce.l0 n l'' at9'' ok'' v45'' v46'' f_1'' h_1'' m v47'') (ruleR L (i : Int) most).1 (by omega) (ruleR L (i : Int) most).1 [] n 0 rfl (by omega) (Nat.le_refl _)
    rw [show (((([] : List Cu).length : Nat)) : Int) = 0 from rfl, show ((0 : Nat) : Int) = 0 from rfl] at hinner
    rw [hinner, Nat.zero_add, hc]
    simp only [law49_SliceOnce.s1, Int.lt_irrefl, decide_false, cond_false, hw, ih]
    by_cases he : idxF (fun r : Ru => cHas r.1 h) L 0 = ((0 + i : Nat) : Int)
    · obtain ⟨q1, q2⟩ := hat.1 he
      have e1 : maxI (idxF (fun r : Ru => cHas r.1 h) L 0) 0 = (i : Int) := by
        rw [he]; unfold maxI; split <;> omega
      have e2 : decide (idxF (fun r : Ru => cHas r.1 h) L 0 ≥ 0) = true := decide_eq_true (by omega)
      rw [e1, e2, q1, q2]
      simp
    · have hq : (!(L.take i).any (fun r => cHas r.1 h) && cHas x.1 h) = false := by
        have := fun h1 h2 => he (hat.2 ⟨h1, h2⟩)
        revert this
        cases (L.take i).any (fun r => cHas r.1 h) <;> cases cHas x.1 h <;> simp
      rw [hq]
      by_cases h1 : idxF (fun r : Ru => cHas r.1 h) L 0 ≥ 0
      · have e1 : maxI (idxF (fun r : Ru => cHas r.1 h) L 0) 0 = idxF (fun r : Ru => cHas r.1 h) L 0 := by unfold maxI; split <;> omega
        have e3 : ((i : Int) == idxF (fun r : Ru => cHas r.1 h) L 0) = false := by rw [beq_eq_false_iff_ne]; omega
        have e4 : ((i : Int) != idxF (fun r : Ru => cHas r.1 h) L 0) = true := by rw [bne, e3]; rfl
        rw [e1, decide_eq_true h1, e3, e4]
        simp
      · rw [decide_eq_false h1]
        simp
theorem slice_once (L : List Ru) (g : List Group) (most : Int) (h : He) (hL : L.length * 792 ≤ 140737488355328) : law49_SliceOnce ((L.length + 1000) + 140) (L.map ru, g) most (hd h) = some true := by
  obtain ⟨b, hb, hf⟩ := light49 ((L.length + 1000) + 140) L g most hL (by omega)
  unfold law49_SliceOnce law49_SliceOnce.s
  rw [hb, obind_some]
  cases b with
  | false => simp only [Bool.not_false, cond_true, slice_awake, obind_some]
  | true =>
    obtain ⟨h8, h300⟩ := hf rfl
    have e3 := slice_all ((L.length + 1000) + 140) (by omega) L g most (by omega) (by omega) (by omega) (by omega)
    have e4 := find_find ((L.length + 1000) + 140) (by omega) L g h (by omega) (by omega)
    simp only [Bool.not_true, cond_false, e3, obind_some]
    rcases allR_spec L most L.length 0 [] with ⟨h1, h2, h3⟩ | ⟨h1, j, h2, h3, h4, h5⟩
    · have h1 : (allS L most).2 = 0 := h1
      have h2 : (allS L most).1 = (List.range' 0 L.length).map (fun (j : Nat) => (ruleR L (j : Int) most).1) := by
        unfold allS; rw [h2, List.nil_append]
      have hlen : (cuss (allS L most).1).length = L.length := by rw [List.length_map, h2, List.length_map, List.length_range']
      simp only [h1, bne_self_eq_false, cond_false, e4, obind_some, hlen]
      exact once_outer ((L.length + 1000) + 140) (by omega) h L g most h300 (by omega) (slice_awake _) (allS L most).1 h2 h8 (fun j hj => h3 j (Nat.zero_le _) (by omega)) L.length 0 _ (by omega) (by omega)
    · have h1 : (allS L most).1 = [] := h1
      have h4 : (allS L most).2 = (ruleR L (j : Int) most).2 := h4
      have h6 : (ruleR L (j : Int) most).2 = 5 := (ruleR_err L j (by omega) most).resolve_left h5
      rw [h1, h4, h6]
      simp only [show ((5 : Int) != 0) = true from rfl, cond_true, beq_self_eq_true, cuss, List.map_nil, List.length_nil, show ((((0 : Nat) : Int) == 0)) = true from rfl, slice_awake, obind_some]
theorem pureSliceOnce : ∀ x : pdens (law49_SliceOnce.τs.map PTy.data), WfP law49_SliceOnce.τs x → ∃ n, law49_SliceOnce.g n x = some true := by
  rintro ⟨f, most, h⟩ ⟨hf, hm, hh⟩
  obtain ⟨L, g, rfl, hL⟩ := flat_rules hf
  obtain ⟨h, rfl⟩ := hd_wf hh
  exact ⟨(L.length + 1000) + 140, slice_once L g most h hL⟩
end Go.Fn
