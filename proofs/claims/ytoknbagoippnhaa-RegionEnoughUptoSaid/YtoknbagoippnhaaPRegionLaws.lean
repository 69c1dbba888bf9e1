/- The plain laws of chapter 37. -/
import Derived.Test.YtoknbagoippnhaaPRegion2
import Derived.Test.YtoknbagoippnhaaPShadowLaws
set_option maxRecDepth 100000
namespace Go.Fn
open Go Go.Vi

theorem region_awake (k : Nat) : law37_awake (k + 140) = some true := by kernel_rfl
theorem flat_lists {a : Flat} (h : Wf TFlat a) : ∃ (L : List Ru) (g : List Group), a = (L.map ru, g) ∧ L.length * 792 ≤ 140737488355328 := by
  obtain ⟨h1, _⟩ := h
  obtain ⟨L, hL, hb⟩ := rule_list h1
  exact ⟨L, a.2, by rw [← hL], hb⟩
theorem rlook_self (n : Nat) (A B : List Ru) (i j : Int) (c : Cu) (most : Int) : beqT THeader (regLook n A B i j c most).1 (regLook n A B i j c most).1 = true := beqT_refl THeader (by decide) _

theorem region_looks (N : Nat) (hN : 4000 ≤ N) (haw : law37_awake N = some true) (A B : List Ru) (ga gb : List Group) (i j : Int) (c : Cu) (most : Int) (hm : most ≤ 9223372036854775807) (hA : A.length ≤ 4611686018427387904) (hB : B.length ≤ 4611686018427387904) (hAn : A.length < N) (hBn : B.length < N) :
    law37_RegionLooks N (A.map ru, ga) (B.map ru, gb) i j (cu c) most = some true := by
  obtain ⟨b, hb, h8⟩ := light_both N (by omega) A B ga gb most hA hB hAn hBn
  simp only [law37_RegionLooks, hb, obind_some, haw]
  cases b with
  | false => rfl
  | true =>
    obtain ⟨k1, k2⟩ := h8 rfl
    have e1 := region_look N hN A B ga gb i j c most hm (by omega) (by omega)
    have e2 := ref37_look N hN A B ga gb i j c most hm (by omega) (by omega)
    simp only [Bool.not_true, cond_false, e1, e2, obind_some, rlook_self, beq_self_eq_true, cond_true]
theorem pureRegionLooks : ∀ x : pdens (law37_RegionLooks.τs.map PTy.data), WfP law37_RegionLooks.τs x → ∃ n, law37_RegionLooks.g n x = some true := by
  rintro ⟨a, b, i, j, c, most⟩ ⟨ha, hb, hi, hj, hc, hm⟩
  obtain ⟨A, ga, rfl, hA⟩ := flat_lists ha
  obtain ⟨B, gb, rfl, hB⟩ := flat_lists hb
  obtain ⟨c, rfl⟩ := cu_wf hc
  exact ⟨(A.length + B.length + 4000) + 140, region_looks ((A.length + B.length + 4000) + 140) (by omega) (region_awake (A.length + B.length + 4000)) A B ga gb i j c most (wf_i64.1 hm).2 (by omega) (by omega) (by omega) (by omega)⟩

theorem region_pairs_law (N : Nat) (hN : 4000 ≤ N) (haw : law37_awake N = some true) (A B : List Ru) (ga gb : List Group) (i j : Int) (hA : A.length ≤ 4611686018427387904) (hB : B.length ≤ 4611686018427387904) (hAn : A.length < N) (hBn : B.length < N) :
    law37_RegionPairs N (A.map ru, ga) (B.map ru, gb) i j = some true := by
  obtain ⟨b, hb, h8⟩ := few_both N A B ga gb hA hB hAn hBn
  have e1 := region_pairs N (by omega) A B ga gb hA hB hAn hBn
  have e2 := region_pairs N (by omega) [] A [] ga (Nat.zero_le _) hA (by simp only [List.length_nil]; omega) hAn
  simp only [law37_RegionPairs, hb, e1, obind_some, haw]
  cases b with
  | false => rfl
  | true =>
    obtain ⟨k1, k2⟩ := h8 rfl
    have hl := allP_len A B A.length 0
    have hAB : A.length * B.length ≤ 8 * 8 := Nat.mul_le_mul k1 k2
    have e3 := region_meet N (by omega) A B ga gb i j
    have e4 := ref37_meet N (by omega) A B ga gb i j
    have e5 := law37_all_eq N (by omega) A B ga gb k1 k2
    have e6 := ref37_pairs N (by omega) A B ga gb k1 k2
    have e7 := twos_same N (allP A B A.length 0) (by omega) (by omega)
    have e8 := region_bound N (by omega) A B ga gb (by omega) (by omega)
    have e9 := ref37_bound N (by omega) A B ga gb k1 k2
    have hself : beqT TCube (outM (mIJ A B i j)).1 (outM (mIJ A B i j)).1 = true := beqT_refl TCube (by decide) _
    have e2' : region_Pairs N (([] : List Rule), ([] : List Group)) (A.map ru, ga) = some ((allP [] A [].length 0).map oneP) := e2
    simp only [Bool.not_true, cond_false, region_Meet, e3, e4, obind_some, hself, beq_self_eq_true, cond_true, e5, e6, e7, e8, e9, e2']
theorem pureRegionPairs : ∀ x : pdens (law37_RegionPairs.τs.map PTy.data), WfP law37_RegionPairs.τs x → ∃ n, law37_RegionPairs.g n x = some true := by
  rintro ⟨a, b, i, j⟩ ⟨ha, hb, hi, hj⟩
  obtain ⟨A, ga, rfl, hA⟩ := flat_lists ha
  obtain ⟨B, gb, rfl, hB⟩ := flat_lists hb
  exact ⟨(A.length + B.length + 4000) + 140, region_pairs_law ((A.length + B.length + 4000) + 140) (by omega) (region_awake (A.length + B.length + 4000)) A B ga gb i j (by omega) (by omega) (by omega) (by omega)⟩

/-! ### what is told is right -/
theorem has_both {a b : Cu} {g : He} (h1 : cHas a g = true) (h2 : cHas b g = true) : cMeetOk a b = true ∧ cHas (cMeet a b) g = true := by
  have := cMeet_has a b g
  rw [h1, h2] at this
  simpa using this.symm
theorem has_meet {a b : Cu} {g : He} (h1 : cMeetOk a b = true) (h2 : cHas (cMeet a b) g = true) : cHas a g = true ∧ cHas b g = true := by
  have := cMeet_has a b g
  rw [h1, h2] at this
  simpa using this
/-- What a look of a region answers is right. -/
theorem regLook_right (n : Nat) (A B : List Ru) (i j : Int) (c : Cu) (most : Int) (hm : most ≤ 9223372036854775807) (hAB : A.length + B.length < n) :
    ((regLook n A B i j c most).2.2 = 5 ∧ (regLook n A B i j c most).2.1 = false) ∨
    ((regLook n A B i j c most).2.2 = 0 ∧ (regLook n A B i j c most).2.1 = true ∧ ∃ g, (regLook n A B i j c most).1 = hd g ∧ findS g A 0 = (i, true) ∧ findS g B 0 = (j, true) ∧ cHas c g = true) ∨
    ((regLook n A B i j c most).2.2 = 0 ∧ (regLook n A B i j c most).2.1 = false ∧ ∀ g, findS g A 0 = (i, true) → findS g B 0 = (j, true) → cHas c g = false) := by
  have none_ : ∀ g, findS g A 0 = (i, true) → findS g B 0 = (j, true) → ∃ i' j' m, i = ((i' : Nat) : Int) ∧ j = ((j' : Nat) : Int) ∧ mN A B i' j' = some m ∧ cHas m g = true ∧ ∀ y ∈ headS A B i' j', cHas y g = false := by
    intro g h1 h2
    obtain ⟨i', x, p1, p2, p3, p4⟩ := findS_true g A 0 i h1
    obtain ⟨j', y, q1, q2, q3, q4⟩ := findS_true g B 0 j h2
    obtain ⟨r1, r2⟩ := has_both p3 q3
    refine ⟨i', j', cMeet x.1 y.1, by rw [p1, Nat.zero_add], by rw [q1, Nat.zero_add], by rw [mN_some p2 q2, r1]; rfl, r2, fun z hz => ?_⟩
    rcases List.mem_append.1 hz with h | h
    · obtain ⟨w, hw, rfl⟩ := List.mem_map.1 h
      exact p4 w hw
    · obtain ⟨w, hw, rfl⟩ := List.mem_map.1 h
      exact q4 w hw
  unfold regLook
  cases h : mIJ A B i j with
  | none =>
    refine .inr (.inr ⟨rfl, rfl, fun g h1 h2 => ?_⟩)
    obtain ⟨i', j', m, rfl, rfl, h3, _⟩ := none_ g h1 h2
    rw [mIJ_nat, h3] at h
    cases h
  | some m =>
    obtain ⟨i', j', rfl, rfl, h'⟩ := mIJ_in h
    simp only [Int.toNat_natCast]
    have hl := headS_len A B i' j'
    cases hk : cMeetOk m c with
    | false =>
      refine .inr (.inr ⟨rfl, rfl, fun g h1 h2 => ?_⟩)
      obtain ⟨i2, j2, m2, e1, e2, h3, h4, _⟩ := none_ g h1 h2
      obtain rfl : i2 = i' := by omega
      obtain rfl : j2 = j' := by omega
      rw [h3] at h'
      cases h'
      cases hc : cHas c g with
      | false => rfl
      | true =>
        have := (has_both h4 hc).1
        rw [hk] at this
        cases this
    | true =>
      rw [cond_true]
      have hr := LookS_right n (cMeet m c) (headS A B i' j') most hm (by omega)
      generalize LookS n (cMeet m c) (headS A B i' j') most = w at hr
      obtain ⟨g, ok, left⟩ := w
      obtain ⟨r1, r2⟩ := hr
      simp only at r1 r2
      unfold ansS
      by_cases hlt : left < 0
      · rw [decide_eq_true hlt, cond_true]
        exact .inl ⟨rfl, rfl⟩
      · rw [decide_eq_false hlt, cond_false]
        cases ok with
        | true =>
          obtain ⟨s1, s2⟩ := r1 rfl
          obtain ⟨t1, t2⟩ := has_meet hk s1
          obtain ⟨x, y, hx, hy, hxy, rfl⟩ := mN_in h'
          obtain ⟨u1, u2⟩ := has_meet hxy t1
          refine .inr (.inl ⟨rfl, rfl, g, rfl, ?_, ?_, t2⟩)
          · have := findS_at g A 0 i' x hx u1 fun z hz => s2 z.1 (List.mem_append_left _ (List.mem_map.2 ⟨z, hz, rfl⟩))
            rwa [Nat.zero_add] at this
          · have := findS_at g B 0 j' y hy u2 fun z hz => s2 z.1 (List.mem_append_right _ (List.mem_map.2 ⟨z, hz, rfl⟩))
            rwa [Nat.zero_add] at this
        | false =>
          refine .inr (.inr ⟨rfl, rfl, fun g h1 h2 => ?_⟩)
          obtain ⟨i2, j2, m2, e1, e2, h3, h4, h5⟩ := none_ g h1 h2
          obtain rfl : i2 = i' := by omega
          obtain rfl : j2 = j' := by omega
          rw [h3] at h'
          cases h'
          cases hc : cHas c g with
          | false => rfl
          | true =>
            obtain ⟨z, hz, hz'⟩ := r2 rfl (by omega) g (has_both h4 hc).2
            rw [h5 z hz] at hz'
            cases hz'

theorem region_hits (N : Nat) (hN : 4000 ≤ N) (haw : law37_awake N = some true) (A B : List Ru) (ga gb : List Group) (i j : Int) (c : Cu) (most : Int) (g : He) (hm : most ≤ 9223372036854775807) (hA : A.length ≤ 4611686018427387904) (hB : B.length ≤ 4611686018427387904) (hAn : A.length < N) (hBn : B.length < N) :
    law37_RegionHits N (A.map ru, ga) (B.map ru, gb) i j (cu c) most (hd g) = some true := by
  obtain ⟨b, hb, h8⟩ := light_both N (by omega) A B ga gb most hA hB hAn hBn
  simp only [law37_RegionHits, hb, obind_some, haw]
  cases b with
  | false => rfl
  | true =>
    obtain ⟨k1, k2⟩ := h8 rfl
    have e1 := region_look N hN A B ga gb i j c most hm (by omega) (by omega)
    simp only [Bool.not_true, cond_false, e1, obind_some]
    have hr := regLook_right N A B i j c most hm (by omega)
    generalize regLook N A B i j c most = w at hr
    obtain ⟨h, ok, e⟩ := w
    simp only at hr ⊢
    rcases hr with ⟨rfl, rfl⟩ | ⟨rfl, rfl, g', rfl, f1, f2, f3⟩ | ⟨rfl, rfl, f⟩
    · rfl
    · have r1 := ref36_find N (by omega) A ga g' hA hAn
      have r2 := ref36_find N (by omega) B gb g' hB hBn
      simp only [bne_self_eq_false, cond_false, cond_true, r1, r2, f1, f2, obind_some, beq_self_eq_true, cube_has N (by omega), f3]
    · have r1 := ref36_find N (by omega) A ga g hA hAn
      have r2 := ref36_find N (by omega) B gb g hB hBn
      have f := f g
      simp only [bne_self_eq_false, cond_false, r1, r2, obind_some, cube_has N (by omega)]
      generalize findS g A 0 = p at f
      generalize findS g B 0 = q at f
      obtain ⟨p1, p2⟩ := p
      obtain ⟨q1, q2⟩ := q
      cases p2 with
      | false => rfl
      | true =>
        cases q2 with
        | false => rfl
        | true =>
          by_cases h1 : p1 = i
          · by_cases h2 : q1 = j
            · subst h1; subst h2
              simp only [f rfl rfl, beq_self_eq_true, cond_true]
            · have : (q1 == j) = false := beq_eq_false_iff_ne.2 h2
              simp only [h1, this, beq_self_eq_true, cond_true, show (false == true) = false from rfl, cond_false]
          · have : (p1 == i) = false := beq_eq_false_iff_ne.2 h1
            simp only [this, beq_self_eq_true, cond_true, show (false == true) = false from rfl, cond_false]
theorem pureRegionHits : ∀ x : pdens (law37_RegionHits.τs.map PTy.data), WfP law37_RegionHits.τs x → ∃ n, law37_RegionHits.g n x = some true := by
  rintro ⟨a, b, i, j, c, most, g⟩ ⟨ha, hb, hi, hj, hc, hm, hg⟩
  obtain ⟨A, ga, rfl, hA⟩ := flat_lists ha
  obtain ⟨B, gb, rfl, hB⟩ := flat_lists hb
  obtain ⟨c, rfl⟩ := cu_wf hc
  obtain ⟨g, rfl⟩ := hd_wf hg
  exact ⟨(A.length + B.length + 4000) + 140, region_hits ((A.length + B.length + 4000) + 140) (by omega) (region_awake (A.length + B.length + 4000)) A B ga gb i j c most g (wf_i64.1 hm).2 (by omega) (by omega) (by omega) (by omega)⟩

theorem meets_less {m c : Cu} (h : cMeetOk m c = true) (l : List Cu) : List.Sublist (meetsS (cMeet m c) l) (meetsS m l) :=
  filter_sub (fun y hy => by
    obtain ⟨g, h1, h2⟩ := meet_ex hy
    exact meet_of (has_meet h h1).1 h2) l
theorem regLook_enough (n : Nat) (A B : List Ru) (i j : Int) (c : Cu) (most : Int) (hAB : A.length + B.length < n) (h0 : regBound A B ≤ most) (h1 : most ≤ 100000) (h2 : regBound A B ≤ 16384) : (regLook n A B i j c most).2.2 = 0 := by
  unfold regLook
  cases h : mIJ A B i j with
  | none => rfl
  | some m =>
    obtain ⟨i', j', rfl, rfl, h'⟩ := mIJ_in h
    simp only [Int.toNat_natCast]
    have hl := headS_len A B i' j'
    cases hk : cMeetOk m c with
    | false => rfl
    | true =>
      rw [cond_true]
      obtain ⟨g1, g2⟩ := bigP_ge A B (allP A B A.length 0) 0
      have hb : boundS m (headS A B i' j') ≤ regBound A B := g2 (i', j', m) (allP_in A B i' j' m h' A.length 0 (Nat.zero_le _) (by have := mN_lt h'; omega))
      have hpos : 0 ≤ regBound A B := g1
      have hen := enough_bound m (headS A B i' j') (by omega)
      have hsub := bndL_sub (meets_less hk (headS A B i' j'))
      have hmm : maxI most 0 = most := by unfold maxI; split <;> omega
      have hnf : decide (most ≥ 1099511627776) = false := decide_eq_false (by omega)
      obtain ⟨_, _, k3, _⟩ := lookS_enough n (cMeet m c) (headS A B i' j') most most (by omega) (by omega) (by omega)
      have hge : ¬ (LookS n (cMeet m c) (headS A B i' j') most).2.2 < 0 := by
        unfold LookS
        rw [hmm, hnf]
        omega
      unfold ansS
      rw [decide_eq_false hge]; rfl
theorem region_enough (N : Nat) (hN : 4000 ≤ N) (haw : law37_awake N = some true) (A B : List Ru) (ga gb : List Group) (i j : Int) (c : Cu) (more : Int) (hm0 : 0 ≤ more) (hm1 : more ≤ 65535) (hL : (A.length + B.length) * 768 ≤ 140737488355328) (hAB : A.length + B.length < N) :
    law37_RegionEnough N (A.map ru, ga) (B.map ru, gb) i j (cu c) more = some true := by
  obtain ⟨b, hb, h8⟩ := few_both N A B ga gb (by omega) (by omega) (by omega) (by omega)
  have e0 := region_bound N (by omega) A B ga gb hL hAB
  have g1 : 0 ≤ regBound A B := (bigP_ge A B (allP A B A.length 0) 0).1
  have g2 := (bigP_ge A B (allP A B A.length 0) 0).2
  have henough := regLook_enough N A B i j c (regBound A B + more) hAB (by omega)
  simp only [law37_RegionEnough, hb, e0, obind_some, haw]
  cases b with
  | false => rfl
  | true =>
    obtain ⟨k1, k2⟩ := h8 rfl
    simp only [Bool.not_true, beq_self_eq_true, cond_true]
    by_cases hB : regBound A B > 4096
    · rw [decide_eq_true hB, cond_true]
    · rw [decide_eq_false hB, cond_false]
      have w1 : IntKind.wrap .i64 more = more := w64 (by omega) (by omega)
      have w2 : IntKind.wrap .i64 (regBound A B + more) = regBound A B + more := w64 (by omega) (by omega)
      have e1 := region_look N hN A B ga gb i j c (regBound A B + more) (by omega) hL hAB
      have he := henough (by omega) (by omega)
      have e3 := region_meet N (by omega) A B ga gb i j
      generalize regLook N A B i j c (regBound A B + more) = w at e1 he
      simp only [w1, w2, e1, obind_some, region_Meet, e3, he, beq_self_eq_true, cond_true]
      cases h : mIJ A B i j with
      | none => rfl
      | some m =>
        obtain ⟨i', j', rfl, rfl, h'⟩ := mIJ_in h
        obtain ⟨hi, hj⟩ := mN_lt h'
        obtain ⟨a1, a2, a3, a4, a5, a6⟩ := ahead_ref N A B i' j' (by omega) (by omega) hL hAB
        have q1 : decide ((0 : Int) ≤ (i' : Int)) = true := decide_eq_true (by omega)
        have q3 : decide ((0 : Int) ≤ (j' : Int)) = true := decide_eq_true (by omega)
        have hh := headS_len A B i' j'
        have e4 := ref08_bound N (by omega) m (headS A B i' j') (by omega) (by omega)
        have hbd : boundS m (headS A B i' j') ≤ regBound A B := g2 (i', j', m) (allP_in A B i' j' m h' A.length 0 (Nat.zero_le _) (by omega))
        have hd : decide (boundS m (headS A B i' j') > regBound A B) = false := decide_eq_false (by omega)
        simp only [outM, beq_self_eq_true, cond_true, law37_cubes, List.length_map (f := ru), q1, q3, a5, a6, Bool.and_self, Int.toNat_natCast, a1, a2, obind_some, a3, a4, e4, hd, cond_false]
/-- For what reads as no more than a million values: with more rules than any machine holds an append runs out of room. -/
theorem pureRegionEnough : ∀ x : pdens (law37_RegionEnough.τs.map PTy.data), WfP law37_RegionEnough.τs x → FewP 1048576 law37_RegionEnough.τs x → ∃ n, law37_RegionEnough.g n x = some true := by
  rintro ⟨a, b, i, j, c, more⟩ ⟨ha, hb, hi, hj, hc, hm⟩ ⟨fa, fb, _⟩
  obtain ⟨A, ga, rfl, hA⟩ := flat_lists ha
  obtain ⟨B, gb, rfl, hB⟩ := flat_lists hb
  obtain ⟨c, rfl⟩ := cu_wf hc
  have hm := u16_range hm
  have k1 : (A.map ru).length ≤ 1048576 := fa.1.1
  have k2 : (B.map ru).length ≤ 1048576 := fb.1.1
  rw [List.length_map] at k1 k2
  exact ⟨(A.length + B.length + 4000) + 140, region_enough ((A.length + B.length + 4000) + 140) (by omega) (region_awake (A.length + B.length + 4000)) A B ga gb i j c more hm.1 hm.2 (by omega) (by omega)⟩
end Go.Fn
