/- The headers that find a rule, as cubes: the natives of chapter 49, and what they come to. -/
import Derived.Test.YtagpigbfbhdoiaaPRule
import Derived.Test.YtagpigbfbhdoiaaPParts
set_option maxRecDepth 100000
namespace Go.Fn
open Go Go.Vi

/-- Cubes without one. -/
def lessS (l : List Cu) (c : Cu) : List Cu := (l.map fun x => partsS x c).flatten
/-- Without the cubes of rules, one behind the other. -/
def foldR (most : Int) : List Cu → List Ru → List Cu × Int
  | l, [] => (l, 0)
  | l, r :: rs => bif decide (((lessS l r.1).length : Int) > most) then ([], 5) else foldR most (lessS l r.1) rs
def ruleR (L : List Ru) (i most : Int) : List Cu × Int :=
  bif decide (i < 0) || decide (i ≥ (L.length : Int)) then ([], 6) else bif decide (1 > most) then ([], 5) else foldR most [cClean (L.getD i.toNat ((fun _ => (0, 0)), [])).1] (L.take i.toNat)

theorem lessS_cons (x : Cu) (l : List Cu) (c : Cu) : lessS (x :: l) c = partsS x c ++ lessS l c := by
  unfold lessS; rw [List.map_cons, List.flatten_cons]
theorem lessS_length (l : List Cu) (c : Cu) : (lessS l c).length ≤ l.length * 3072 := by
  induction l with
  | nil => exact Nat.le_refl _
  | cons x l ih =>
    have := partsS_length x c
    rw [lessS_cons, List.length_append, List.length_cons, Nat.succ_mul]
    omega
theorem foldR_length (most : Int) : ∀ (rs : List Ru) (l : List Cu), (l.length : Int) ≤ most → ((foldR most l rs).1.length : Int) ≤ most
  | [], l, h => h
  | r :: rs, l, h => by
    unfold foldR
    by_cases h1 : ((lessS l r.1).length : Int) > most
    · rw [decide_eq_true h1]; simp only [cond_true, List.length_nil]; omega
    · rw [decide_eq_false h1]; exact foldR_length most rs _ (by omega)
theorem foldR_err (most : Int) : ∀ (rs : List Ru) (l : List Cu), (foldR most l rs).2 = 0 ∨ ((foldR most l rs).2 = 5 ∧ (foldR most l rs).1 = [])
  | [], l => .inl rfl
  | r :: rs, l => by
    unfold foldR
    cases decide (((lessS l r.1).length : Int) > most) with
    | true => exact .inr ⟨rfl, rfl⟩
    | false => exact foldR_err most rs _
theorem ruleR_length (L : List Ru) (i most : Int) : ((ruleR L i most).1.length : Int) ≤ max most 0 := by
  unfold ruleR
  cases decide (i < 0) || decide (i ≥ (L.length : Int)) with
  | true => simp only [cond_true, List.length_nil]; omega
  | false =>
    by_cases h : 1 > most
    · rw [decide_eq_true h]; simp only [cond_false, cond_true, List.length_nil]; omega
    · rw [decide_eq_false h]
      have := foldR_length most (L.take i.toNat) [cClean (L.getD i.toNat ((fun _ => (0, 0)), [])).1] (by simp only [List.length_cons, List.length_nil]; omega)
      simp only [cond_false]
      omega

/-! ### the heap -/
theorem push_cond {most : Int} (pre : List Cu) (x : Cu) (h : (pre.length : Int) ≤ most) (hm : most ≤ 100000) : decide ((List.length (pre.map cu) + List.length ([cu x] : List Cube)) * 768 ≤ 140737488355328) = true := by
  rw [decide_eq_true_eq, List.length_map, List.length_cons, List.length_nil]; omega
/-- The inner loop: the parts of one cube. -/
theorem less_inner (n : Nat) (most : Int) (hm : most ≤ 100000) (v16 : List Cube) (v17 v18 : Int) (c : Cube) (v4 : Bool) (k0 : List Cube → Int → Int → Heap → Cube → Bool → Option (Heap × Bool)) :
    ∀ (xs pre : List Cu), (pre.length : Int) ≤ most →
      slice_heap_less.l1 n v16 v17 v18 c v4 k0 (xs.map cu) (pre.map cu, most) =
        bif decide (((pre ++ xs).length : Int) ≤ most) then k0 v16 v17 (IntKind.wrap .i64 (v18 + 1)) ((pre ++ xs).map cu, most) c v4
        else some (((pre ++ xs.take (most.toNat + 1 - pre.length)).map cu, most), false)
  | [], pre, h => by
    have e : decide (((pre ++ ([] : List Cu)).length : Int) ≤ most) = true := decide_eq_true (by rw [List.append_nil]; exact h)
    rw [e, List.append_nil]
    rfl
  | x :: xs, pre, h => by
    have e2 : pre.map cu ++ [cu x] = (pre ++ [x]).map cu := by rw [List.map_append]; rfl
    have e3 : pre ++ x :: xs = (pre ++ [x]) ++ xs := by simp
    have hlen : (((pre ++ [x]).map cu).length : Int) = (pre.length : Int) + 1 := by rw [List.length_map, List.length_append, List.length_cons, List.length_nil]; omega
    simp only [List.map_cons, slice_heap_less.l1, slice_heap_less.s1, push_cond pre x h hm, cond_true, e2, obind_some, slice_heap_full, hlen]
    by_cases h1 : (pre.length : Int) + 1 > most
    · have e4 : decide (((pre ++ x :: xs).length : Int) ≤ most) = false := decide_eq_false (by rw [List.length_append, List.length_cons]; omega)
      have e5 : most.toNat + 1 - pre.length = 1 := by omega
      rw [decide_eq_true h1, e4, e5]
      rfl
    · have ih := less_inner n most hm v16 v17 v18 c v4 k0 xs (pre ++ [x]) (by rw [List.length_append, List.length_cons, List.length_nil]; omega)
      rw [decide_eq_false h1, cond_false, ih, e3]
      have e6 : pre ++ List.take (most.toNat + 1 - pre.length) (x :: xs) = pre ++ [x] ++ List.take (most.toNat + 1 - (pre ++ [x]).length) xs := by
        rw [show most.toNat + 1 - pre.length = (most.toNat + 1 - (pre ++ [x]).length) + 1 by rw [List.length_append, List.length_cons, List.length_nil]; omega, List.take_succ_cons, List.append_assoc]
        rfl
      rw [e6]
/-- The outer loop. -/
theorem less_outer (n : Nat) (hn : 128 < n) (most : Int) (hm : most ≤ 100000) (c : Cu) (l : List Cu) (hl : l.length ≤ 100000) (v4 : Bool) : ∀ (suf pre acc : List Cu) (m : Nat), l = pre ++ suf → suf.length < m → (acc.length : Int) ≤ most →
    ∃ h : Heap, slice_heap_less.l0 n (l.map cu) ((l.length : Nat) : Int) (cu c) v4 m ((pre.length : Nat) : Int) (acc.map cu, most) = some (h, decide (((acc ++ lessS suf c).length : Int) ≤ most)) ∧
      (((acc ++ lessS suf c).length : Int) ≤ most → h = ((acc ++ lessS suf c).map cu, most))
  | [], pre, acc, m + 1, he, _, ha => by
    have hlt : ¬ ((pre.length : Nat) : Int) < ((l.length : Nat) : Int) := by rw [he]; simp
    have e0 : lessS [] c = [] := rfl
    refine ⟨(acc.map cu, most), ?_, fun _ => by rw [e0, List.append_nil]⟩
    rw [e0, List.append_nil, decide_eq_true ha]
    simp only [slice_heap_less.l0, slice_heap_less.s0, hlt, decide_false, cond_false]
  | x :: suf, pre, acc, m + 1, he, hmm, ha => by
    have hlen : l.length = pre.length + suf.length + 1 := by rw [he]; simp; omega
    have hlt : ((pre.length : Nat) : Int) < ((l.length : Nat) : Int) := by omega
    have hin : inRange ((pre.length : Nat) : Int) (l.map cu).length = true := inRange_true (by omega) (by rw [List.length_map]; exact hlt)
    have hg : List.getD (l.map cu) pre.length (List.replicate 24 ((0, 0), 0, 0)) = cu x := by
      rw [List.getD_eq_getElem?_getD, List.getElem?_map, he]; simp
    have hw : IntKind.wrap .i64 (((pre.length : Nat) : Int) + 1) = (((pre ++ [x]).length : Nat) : Int) := by rw [w64 (by omega) (by omega)]; simp
    have e1 : acc ++ lessS (x :: suf) c = (acc ++ partsS x c) ++ lessS suf c := by rw [lessS_cons, List.append_assoc]
    simp only [slice_heap_less.l0, slice_heap_less.s0, hlt, decide_true, cond_true, hin, Int.toNat_natCast, hg, carve_parts n hn, obind_some]
    rw [less_inner n most hm _ _ _ _ _ _ (partsS x c) acc ha, e1]
    by_cases h1 : (((acc ++ partsS x c).length : Nat) : Int) ≤ most
    · rw [decide_eq_true h1, cond_true, hw]
      exact less_outer n hn most hm c l hl v4 suf (pre ++ [x]) (acc ++ partsS x c) m (by rw [he]; simp) (by simp at hmm; omega) h1
    · have h2 : ¬ (((acc ++ partsS x c ++ lessS suf c).length : Nat) : Int) ≤ most := by rw [List.length_append]; omega
      rw [decide_eq_false h1, decide_eq_false h2, cond_false]
      exact ⟨_, rfl, fun h => absurd h h2⟩
theorem less_eq (n : Nat) (hn : 128 < n) (most : Int) (h0 : 0 ≤ most) (hm : most ≤ 100000) (c : Cu) (l : List Cu) (hl : l.length ≤ 100000) (hln : l.length < n) :
    ∃ h : Heap, slice_heap_less n (l.map cu, most) (cu c) = some (h, decide (((lessS l c).length : Int) ≤ most)) ∧ (((lessS l c).length : Int) ≤ most → h = ((lessS l c).map cu, most)) := by
  have := less_outer n hn most hm c l hl false l [] [] n rfl hln h0
  simp only [slice_heap_less, slice_heap_less.s, List.length_map]
  exact this

/-! ### one rule -/
theorem rule_loop (n : Nat) (hn : 128 < n) (most : Int) (h0 : 0 ≤ most) (hm : most ≤ 100000) (hmn : most < n) (R : List Ru) (hR : R.length ≤ 4611686018427387904) : ∀ (suf pre : List Ru) (l : List Cu) (m : Nat), R = pre ++ suf → suf.length < m → (l.length : Int) ≤ most →
    slice_Rule.l0 n (R.map ru) ((R.length : Nat) : Int) m ((pre.length : Nat) : Int) (l.map cu, most) = some ((foldR most l suf).1.map cu, (foldR most l suf).2)
  | [], pre, l, m + 1, he, _, _ => by
    have hlt : ¬ ((pre.length : Nat) : Int) < ((R.length : Nat) : Int) := by rw [he]; simp
    simp only [slice_Rule.l0, slice_Rule.s0, hlt, decide_false, cond_false, foldR]
  | r :: suf, pre, l, m + 1, he, hmm, hl => by
    have hlen : R.length = pre.length + suf.length + 1 := by rw [he]; simp; omega
    have hlt : ((pre.length : Nat) : Int) < ((R.length : Nat) : Int) := by omega
    have hin : inRange ((pre.length : Nat) : Int) (R.map ru).length = true := inRange_true (by omega) (by rw [List.length_map]; exact hlt)
    have hr : R[pre.length]? = some r := by rw [he, List.getElem?_append_right (Nat.le_refl _), Nat.sub_self]; rfl
    have hg := rule_nat hr (List.replicate 24 ((0, 0), 0, 0), ([] : List Atom))
    have hw : IntKind.wrap .i64 (((pre.length : Nat) : Int) + 1) = (((pre ++ [r]).length : Nat) : Int) := by rw [w64 (by omega) (by omega)]; simp
    obtain ⟨h, h1, h2⟩ := less_eq n hn most h0 hm r.1 l (by omega) (by omega)
    have h1 : slice_heap_less n (l.map cu, most) (ru r).1 = some (h, decide (((lessS l r.1).length : Int) ≤ most)) := h1
    simp only [slice_Rule.l0, slice_Rule.s0, hlt, decide_true, cond_true, hin, Int.toNat_natCast, hg, h1, obind_some, foldR]
    by_cases h3 : ((lessS l r.1).length : Int) ≤ most
    · have h4 : ¬ ((lessS l r.1).length : Int) > most := by omega
      rw [decide_eq_true h3, decide_eq_false h4, h2 h3]
      simp only [Bool.not_true, cond_false, hw]
      exact rule_loop n hn most h0 hm hmn R hR suf (pre ++ [r]) (lessS l r.1) m (by rw [he]; simp) (by simp at hmm; omega) h3
    · have h4 : ((lessS l r.1).length : Int) > most := by omega
      rw [decide_eq_false h3, decide_eq_true h4]
      simp only [Bool.not_false, cond_true, List.map_nil]
theorem rule_in {L : List Ru} {i : Int} (h0 : 0 ≤ i) (h1 : i < (L.length : Int)) : ∃ r, L[i.toNat]? = some r ∧ L.getD i.toNat ((fun _ => (0, 0)), []) = r := by
  have h2 : i.toNat < L.length := by omega
  exact ⟨L[i.toNat], List.getElem?_eq_getElem h2, by rw [List.getD_eq_getElem?_getD, List.getElem?_eq_getElem h2]; rfl⟩
theorem slice_rule (n : Nat) (hn : 128 < n) (L : List Ru) (g : List Group) (i most : Int) (hm : most ≤ 100000) (hmn : most < n) (hL : L.length ≤ 4611686018427387904) (hLn : L.length < n) : slice_Rule n (L.map ru, g) i most = some ((ruleR L i most).1.map cu, (ruleR L i most).2) := by
  unfold slice_Rule slice_Rule.s ruleR
  by_cases h1 : i < 0
  · simp only [decide_eq_true h1, show (true == false) = false from rfl, cond_false, Bool.true_or, cond_true, List.map_nil]
  · by_cases h2 : i ≥ (L.length : Int)
    · simp only [decide_eq_false h1, decide_eq_true h2, beq_self_eq_true, cond_true, List.length_map, Bool.or_true, List.map_nil]
    · obtain ⟨r, hr, hr'⟩ := rule_in (L := L) (i := i) (by omega) (by omega)
      have hin : inRange i L.length = true := inRange_true (by omega) (by omega)
      have hg := rule_nat hr (List.replicate 24 ((0, 0), 0, 0), ([] : List Atom))
      have hc : cube_Clean n (ru r).1 = some (cu (cClean r.1)) := cube_clean n (by omega) r.1
      simp only [decide_eq_false h1, decide_eq_false h2, beq_self_eq_true, cond_true, cond_false, List.length_map, Bool.or_self, hin, hg, hc, obind_some, slice_heap_full, List.length_cons, List.length_nil, hr']
      by_cases h3 : 1 > most
      · rw [decide_eq_true h3, show decide ((((0 + 1 : Nat)) : Int) > most) = true from decide_eq_true (by omega)]
        simp only [cond_true, List.map_nil]
      · have hb : (decide (0 ≤ i) && decide (i ≤ ((L.length : Nat) : Int))) = true := by
          rw [Bool.and_eq_true, decide_eq_true_eq, decide_eq_true_eq]; omega
        have hs : sub (L.map ru) 0 i.toNat = (L.take i.toNat).map ru := by unfold sub; rw [List.drop_zero, List.map_take]
        rw [decide_eq_false h3, show decide ((((0 + 1 : Nat)) : Int) > most) = false from decide_eq_false (by omega)]
        simp only [cond_false, hb, cond_true, hs, List.length_map]
        exact rule_loop n hn most (by omega) hm hmn (L.take i.toNat) (by rw [List.length_take]; omega) (L.take i.toNat) [] [cClean r.1] n rfl (by rw [List.length_take]; omega) (by simp only [List.length_cons, List.length_nil]; omega)

/-! ### the document -/
theorem ref_less (n : Nat) (hn : 128 < n) (c : Cu) (l : List Cu) (hl : l.length ≤ 100000) (hln : l.length < n) : ref49_Less n (l.map cu) (cu c) = some ((lessS l c).map cu) := by
  have key : ∀ (suf pre : List Cu) (m : Nat), l = pre ++ suf → suf.length < m → ref49_Less.l0 n (l.map cu) (cu c) m ((lessS pre c).map cu) ((pre.length : Nat) : Int) = some ((lessS l c).map cu) := by
    intro suf
    induction suf with
    | nil =>
      intro pre m he hm
      obtain ⟨m, rfl⟩ : ∃ k, m = k + 1 := ⟨m - 1, by simp at hm; omega⟩
      rw [List.append_nil] at he
      subst he
      simp only [ref49_Less.l0, ref49_Less.s0, List.length_map, Int.lt_irrefl, decide_false, cond_false]
    | cons x suf ih =>
      intro pre m he hm
      obtain ⟨m, rfl⟩ : ∃ k, m = k + 1 := ⟨m - 1, by simp at hm; omega⟩
      have hlen : l.length = pre.length + suf.length + 1 := by rw [he]; simp; omega
      have hlt : ((pre.length : Nat) : Int) < (((l.map cu).length : Nat) : Int) := by rw [List.length_map]; omega
      have hin : inRange ((pre.length : Nat) : Int) (l.map cu).length = true := inRange_true (by omega) hlt
      have hg : List.getD (l.map cu) pre.length (List.replicate 24 ((0, 0), 0, 0)) = cu x := by
        rw [List.getD_eq_getElem?_getD, List.getElem?_map, he]; simp
      have hw : IntKind.wrap .i64 (((pre.length : Nat) : Int) + 1) = (((pre ++ [x]).length : Nat) : Int) := by rw [w64 (by omega) (by omega)]; simp
      have h1 := lessS_length pre c
      have h2 := partsS_length x c
      have hc : decide ((((lessS pre c).map cu).length + ((partsS x c).map cu).length) * 768 ≤ 140737488355328) = true := by
        rw [decide_eq_true_eq, List.length_map, List.length_map]; omega
      have e1 : (lessS pre c).map cu ++ (partsS x c).map cu = (lessS (pre ++ [x]) c).map cu := by
        unfold lessS; simp
      simp only [ref49_Less.l0, ref49_Less.s0, hlt, decide_true, cond_true, hin, Int.toNat_natCast, hg, ref07_list n hn, obind_some, hc, e1, hw]
      exact ih (pre ++ [x]) m (by rw [he]; simp) (by simp at hm; omega)
  exact key l [] n rfl hln
theorem ref_rule_loop (n : Nat) (hn : 128 < n) (most : Int) (hm : most ≤ 100000) (hmn : most < n) (L : List Ru) (g : List Group) (i : Nat) (hi : i ≤ L.length) (hL : L.length ≤ 4611686018427387904) : ∀ (suf pre : List Ru) (l : List Cu) (m : Nat), L.take i = pre ++ suf → suf.length < m → (l.length : Int) ≤ most →
    ref49_Rule.l0 n (i : Int) most (L.map ru, g) m (l.map cu) ((pre.length : Nat) : Int) = some ((foldR most l suf).1.map cu, (foldR most l suf).2)
  | [], pre, l, m + 1, he, _, _ => by
    have hl : i = pre.length := by have := congrArg List.length he; rw [List.length_take, List.append_nil] at this; omega
    have hlt : ¬ ((pre.length : Nat) : Int) < (i : Int) := by omega
    simp only [ref49_Rule.l0, ref49_Rule.s0, hlt, decide_false, cond_false, foldR]
  | r :: suf, pre, l, m + 1, he, hmm, hl => by
    have hlen : i = pre.length + suf.length + 1 := by have := congrArg List.length he; rw [List.length_take, List.length_append, List.length_cons] at this; omega
    have hlt : ((pre.length : Nat) : Int) < (i : Int) := by omega
    have hin : inRange ((pre.length : Nat) : Int) L.length = true := inRange_true (by omega) (by omega)
    have hr : L[pre.length]? = some r := by
      have h := congrArg (fun l : List Ru => l[pre.length]?) he
      simp only [List.getElem?_take, List.getElem?_append_right (Nat.le_refl _), Nat.sub_self] at h
      rw [if_pos (by omega)] at h
      exact h
    have hg := rule_nat hr (List.replicate 24 ((0, 0), 0, 0), ([] : List Atom))
    have hw : IntKind.wrap .i64 (((pre.length : Nat) : Int) + 1) = (((pre ++ [r]).length : Nat) : Int) := by rw [w64 (by omega) (by omega)]; simp
    have h1 : ref49_Less n (l.map cu) (ru r).1 = some ((lessS l r.1).map cu) := ref_less n hn r.1 l (by omega) (by omega)
    simp only [ref49_Rule.l0, ref49_Rule.s0, hlt, decide_true, cond_true, hin, Int.toNat_natCast, hg, h1, obind_some, List.length_map, foldR]
    by_cases h3 : ((lessS l r.1).length : Int) > most
    · rw [decide_eq_true h3]; simp only [cond_true, List.map_nil]
    · rw [decide_eq_false h3]
      simp only [cond_false, hw]
      exact ref_rule_loop n hn most hm hmn L g i hi hL suf (pre ++ [r]) (lessS l r.1) m (by rw [he]; simp) (by simp at hmm; omega) (by omega)
theorem ref_rule (n : Nat) (hn : 128 < n) (L : List Ru) (g : List Group) (i most : Int) (hm : most ≤ 100000) (hmn : most < n) (hL : L.length ≤ 4611686018427387904) (hLn : L.length < n) : ref49_Rule n (L.map ru, g) i most = some ((ruleR L i most).1.map cu, (ruleR L i most).2) := by
  unfold ref49_Rule ref49_Rule.s ruleR
  by_cases h1 : i < 0
  · simp only [decide_eq_true h1, show (true == false) = false from rfl, cond_false, Bool.true_or, cond_true, List.map_nil]
  · by_cases h2 : i ≥ (L.length : Int)
    · simp only [decide_eq_false h1, decide_eq_true h2, beq_self_eq_true, cond_true, List.length_map, Bool.or_true, List.map_nil]
    · obtain ⟨r, hr, hr'⟩ := rule_in (L := L) (i := i) (by omega) (by omega)
      have hin : inRange i L.length = true := inRange_true (by omega) (by omega)
      have hg := rule_nat hr (List.replicate 24 ((0, 0), 0, 0), ([] : List Atom))
      have hc : ref06_Clean n (ru r).1 = some (cu (cClean r.1)) := ref06_clean n (by omega) r.1
      simp only [decide_eq_false h1, decide_eq_false h2, beq_self_eq_true, cond_true, cond_false, List.length_map, Bool.or_self, hin, hg, hc, obind_some, List.length_cons, List.length_nil, hr']
      by_cases h3 : 1 > most
      · rw [decide_eq_true h3, show decide ((((0 + 1 : Nat)) : Int) > most) = true from decide_eq_true (by omega)]
        simp only [cond_true, List.map_nil]
      · rw [decide_eq_false h3, show decide ((((0 + 1 : Nat)) : Int) > most) = false from decide_eq_false (by omega)]
        simp only [cond_false]
        have hi : (i.toNat : Int) = i := by omega
        have := ref_rule_loop n hn most hm hmn L g i.toNat (by omega) hL (L.take i.toNat) [] [cClean r.1] n rfl (by rw [List.length_take]; omega) (by simp only [List.length_cons, List.length_nil]; omega)
        rw [hi] at this
        exact this
end Go.Fn
