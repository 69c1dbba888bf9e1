/- Regions: the natives of chapter 37, and what they come to. -/
import Derived.Test.YtoknbagoippnhaaPShadow2
set_option maxRecDepth 100000
namespace Go.Fn
open Go Go.Vi

def outM : Option Cu → List TernI × Bool
  | some m => (cu m, true)
  | none => (cu (fun _ => (0, 0)), false)
def mN (A B : List Ru) (i j : Nat) : Option Cu := (A[i]?).bind fun x => (B[j]?).bind fun y => bif cMeetOk x.1 y.1 then some (cMeet x.1 y.1) else none
def mIJ (A B : List Ru) (i j : Int) : Option Cu := bif decide (i < 0) || decide (j < 0) then none else mN A B i.toNat j.toNat
theorem cu_zero' : cu (fun _ => (0, 0)) = ([((0, 0), 0, 0), ((0, 0), 0, 0), ((0, 0), 0, 0), ((0, 0), 0, 0), ((0, 0), 0, 0), ((0, 0), 0, 0), ((0, 0), 0, 0), ((0, 0), 0, 0), ((0, 0), 0, 0), ((0, 0), 0, 0), ((0, 0), 0, 0), ((0, 0), 0, 0), ((0, 0), 0, 0), ((0, 0), 0, 0), ((0, 0), 0, 0), ((0, 0), 0, 0), ((0, 0), 0, 0), ((0, 0), 0, 0), ((0, 0), 0, 0), ((0, 0), 0, 0), ((0, 0), 0, 0), ((0, 0), 0, 0), ((0, 0), 0, 0), ((0, 0), 0, 0)] : List TernI) := by
  rw [← cu_0]; rfl
theorem mIJ_nat (A B : List Ru) (i j : Nat) : mIJ A B i j = mN A B i j := by
  unfold mIJ
  rw [decide_eq_false (show ¬ (i : Int) < 0 by omega), decide_eq_false (show ¬ (j : Int) < 0 by omega)]; rfl
theorem mN_some {A B : List Ru} {i j : Nat} {x y : Ru} (hx : A[i]? = some x) (hy : B[j]? = some y) : mN A B i j = bif cMeetOk x.1 y.1 then some (cMeet x.1 y.1) else none := by
  simp only [mN, hx, hy, Option.bind_some]
theorem mN_in {A B : List Ru} {i j : Nat} {m : Cu} (h : mN A B i j = some m) : ∃ x y, A[i]? = some x ∧ B[j]? = some y ∧ cMeetOk x.1 y.1 = true ∧ m = cMeet x.1 y.1 := by
  unfold mN at h
  cases hx : A[i]? with
  | none => rw [hx] at h; cases h
  | some x =>
    cases hy : B[j]? with
    | none => rw [hx, hy] at h; cases h
    | some y =>
      simp only [hx, hy, Option.bind_some] at h
      cases hk : cMeetOk x.1 y.1 with
      | false => rw [hk] at h; cases h
      | true => rw [hk] at h; exact ⟨x, y, rfl, rfl, hk, (Option.some.inj h).symm⟩
theorem mN_lt {A B : List Ru} {i j : Nat} {m : Cu} (h : mN A B i j = some m) : i < A.length ∧ j < B.length := by
  obtain ⟨x, y, hx, hy, _⟩ := mN_in h
  exact ⟨len_of hx, len_of hy⟩
theorem mIJ_in {A B : List Ru} {i j : Int} {m : Cu} (h : mIJ A B i j = some m) : ∃ i' j' : Nat, i = (i' : Int) ∧ j = (j' : Int) ∧ mN A B i' j' = some m := by
  unfold mIJ at h
  by_cases h1 : i < 0
  · rw [decide_eq_true h1] at h; cases h
  · by_cases h2 : j < 0
    · rw [decide_eq_false h1, decide_eq_true h2] at h; cases h
    · rw [decide_eq_false h1, decide_eq_false h2] at h
      exact ⟨i.toNat, j.toNat, by omega, by omega, h⟩
theorem mIJ_neg {A B : List Ru} {i j : Int} (h : i < 0 ∨ j < 0) : mIJ A B i j = none := by
  unfold mIJ
  rcases h with h | h
  · rw [decide_eq_true h]; rfl
  · rw [decide_eq_true h, Bool.or_true]; rfl
theorem mN_out {A B : List Ru} {i j : Nat} (h : A.length ≤ i ∨ B.length ≤ j) : mN A B i j = none := by
  cases hm : mN A B i j with
  | none => rfl
  | some m =>
    have := mN_lt hm
    omega

theorem region_meet (n : Nat) (hn : 24 < n) (A B : List Ru) (ga gb : List Group) (i j : Int) : region_both_meet n ((A.map ru, ga), (B.map ru, gb)) i j = some (outM (mIJ A B i j)) := by
  unfold region_both_meet
  rw [← cu_zero']
  simp only [List.length_map]
  by_cases h0 : i < 0 ∨ j < 0
  · have hm : decide (minI i j < 0) = true := decide_eq_true (by unfold minI; split <;> omega)
    rw [mIJ_neg h0]
    simp only [hm, show (true == false) = false from rfl, cond_false]; rfl
  · have hm : decide (minI i j < 0) = false := decide_eq_false (by unfold minI; split <;> omega)
    obtain ⟨i', rfl⟩ : ∃ k : Nat, i = k := ⟨i.toNat, by omega⟩
    obtain ⟨j', rfl⟩ : ∃ k : Nat, j = k := ⟨j.toNat, by omega⟩
    rw [mIJ_nat]
    by_cases h1 : i' < A.length
    · by_cases h2 : j' < B.length
      · obtain ⟨x, hx⟩ : ∃ x, A[i']? = some x := ⟨_, List.getElem?_eq_getElem h1⟩
        obtain ⟨y, hy⟩ : ∃ y, B[j']? = some y := ⟨_, List.getElem?_eq_getElem h2⟩
        rw [mN_some hx hy]
        have e1 : decide ((i' : Int) ≥ ((A.length : Nat) : Int)) = false := decide_eq_false (by omega)
        have e2 : decide ((j' : Int) ≥ ((B.length : Nat) : Int)) = false := decide_eq_false (by omega)
        simp only [hm, e1, e2, beq_self_eq_true, cond_true, cond_false, inRange_of hx, inRange_of hy, Int.toNat_natCast, rule_nat hx, rule_nat hy, ru, cube_meet n hn, obind_some]
        cases cMeetOk x.1 y.1 <;> rfl
      · have e1 : decide ((i' : Int) ≥ ((A.length : Nat) : Int)) = false := decide_eq_false (by omega)
        have e2 : decide ((j' : Int) ≥ ((B.length : Nat) : Int)) = true := decide_eq_true (by omega)
        rw [mN_out (.inr (by omega))]
        simp only [hm, e1, e2, beq_self_eq_true, cond_true]; rfl
    · have e1 : decide ((i' : Int) ≥ ((A.length : Nat) : Int)) = true := decide_eq_true (by omega)
      rw [mN_out (.inl (by omega))]
      simp only [hm, e1, beq_self_eq_true, cond_true, show (true == false) = false from rfl, cond_false]; rfl
theorem ref37_meet (n : Nat) (hn : 24 < n) (A B : List Ru) (ga gb : List Group) (i j : Int) : ref37_Meet n (A.map ru, ga) (B.map ru, gb) i j = some (outM (mIJ A B i j)) := by
  unfold ref37_Meet
  rw [← cu_zero']
  simp only [List.length_map]
  by_cases h0 : i < 0
  · rw [mIJ_neg (.inl h0)]
    simp only [h0, decide_true, show (true == false) = false from rfl, cond_false]; rfl
  by_cases h0' : j < 0
  · rw [mIJ_neg (.inr h0')]
    by_cases h1 : i ≥ ((A.length : Nat) : Int)
    · simp only [h0, h1, decide_false, decide_true, beq_self_eq_true, cond_true, show (true == false) = false from rfl, cond_false]; rfl
    · simp only [h0, h1, h0', decide_false, decide_true, beq_self_eq_true, cond_true, show (true == false) = false from rfl, cond_false]; rfl
  · obtain ⟨i', rfl⟩ : ∃ k : Nat, i = k := ⟨i.toNat, by omega⟩
    obtain ⟨j', rfl⟩ : ∃ k : Nat, j = k := ⟨j.toNat, by omega⟩
    rw [mIJ_nat]
    by_cases h1 : i' < A.length
    · have e1 : decide ((i' : Int) ≥ ((A.length : Nat) : Int)) = false := decide_eq_false (by omega)
      by_cases h2 : j' < B.length
      · obtain ⟨x, hx⟩ : ∃ x, A[i']? = some x := ⟨_, List.getElem?_eq_getElem h1⟩
        obtain ⟨y, hy⟩ : ∃ y, B[j']? = some y := ⟨_, List.getElem?_eq_getElem h2⟩
        rw [mN_some hx hy]
        have e2 : decide ((j' : Int) ≥ ((B.length : Nat) : Int)) = false := decide_eq_false (by omega)
        simp only [h0, h0', decide_false, e1, e2, beq_self_eq_true, cond_true, cond_false, inRange_of hx, inRange_of hy, Int.toNat_natCast, rule_nat hx, rule_nat hy, ru, ref06_meet n hn, obind_some]
        cases cMeetOk x.1 y.1 <;> rfl
      · have e2 : decide ((j' : Int) ≥ ((B.length : Nat) : Int)) = true := decide_eq_true (by omega)
        rw [mN_out (.inr (by omega))]
        simp only [h0, h0', decide_false, e1, e2, beq_self_eq_true, cond_true]; rfl
    · have e1 : decide ((i' : Int) ≥ ((A.length : Nat) : Int)) = true := decide_eq_true (by omega)
      rw [mN_out (.inl (by omega))]
      simp only [h0, decide_false, e1, beq_self_eq_true, cond_true, show (true == false) = false from rfl, cond_false]; rfl

/-! ### the cubes ahead -/
def headS (A B : List Ru) (i j : Nat) : List Cu := (A.take i).map (·.1) ++ (B.take j).map (·.1)
theorem headS_len (A B : List Ru) (i j : Nat) : (headS A B i j).length ≤ A.length + B.length := by
  unfold headS
  simp only [List.length_append, List.length_map, List.length_take]
  omega
theorem region_ahead (n : Nat) (A B : List Ru) (ga gb : List Group) (i j : Nat) (hi : i ≤ A.length) (hj : j ≤ B.length) (hL : (A.length + B.length) * 768 ≤ 140737488355328) (hn : A.length + B.length < n) :
    region_both_ahead n ((A.map ru, ga), (B.map ru, gb)) i j = some ((headS A B i j).map cu) := by
  have h1 : decide ((0 : Int) ≤ (i : Int)) = true := decide_eq_true (by omega)
  have h2 : decide ((i : Int) ≤ ((A.length : Nat) : Int)) = true := decide_eq_true (by omega)
  have h3 : decide ((0 : Int) ≤ (j : Int)) = true := decide_eq_true (by omega)
  have h4 : decide ((j : Int) ≤ ((B.length : Nat) : Int)) = true := decide_eq_true (by omega)
  have e1 := shadow_cubes n (A.take i) (by rw [List.length_take]; omega) (by rw [List.length_take]; omega)
  have e2 := shadow_cubes n (B.take j) (by rw [List.length_take]; omega) (by rw [List.length_take]; omega)
  have h5 : decide ((min i A.length + min j B.length) * 768 ≤ 140737488355328) = true := decide_eq_true (by omega)
  simp only [region_both_ahead, List.length_map, h1, h2, h3, h4, Bool.and_self, cond_true, Int.toNat_natCast, sub_nat, ← List.map_take, e1, e2, obind_some, List.length_take, h5]
  unfold headS
  rw [List.map_append]
theorem ahead_ref (n : Nat) (A B : List Ru) (i j : Nat) (hi : i ≤ A.length) (hj : j ≤ B.length) (hL : (A.length + B.length) * 768 ≤ 140737488355328) (hn : A.length + B.length < n) :
    ref34_Cubes n (sub (A.map ru) 0 i) = some (((A.take i).map (·.1)).map cu) ∧ ref34_Cubes n (sub (B.map ru) 0 j) = some (((B.take j).map (·.1)).map cu) ∧
    decide ((List.length (((A.take i).map (·.1)).map cu) + List.length (((B.take j).map (·.1)).map cu)) * 768 ≤ 140737488355328) = true ∧ ((A.take i).map (·.1)).map cu ++ ((B.take j).map (·.1)).map cu = (headS A B i j).map cu ∧
    decide ((i : Int) ≤ ((A.length : Nat) : Int)) = true ∧ decide ((j : Int) ≤ ((B.length : Nat) : Int)) = true := by
  rw [sub_nat, sub_nat, ← List.map_take, ← List.map_take]
  refine ⟨ref34_cubes n (A.take i) (by rw [List.length_take]; omega) (by rw [List.length_take]; omega), ref34_cubes n (B.take j) (by rw [List.length_take]; omega) (by rw [List.length_take]; omega), decide_eq_true ?_, ?_, decide_eq_true (by omega), decide_eq_true (by omega)⟩
  · simp only [List.length_map, List.length_take]
    omega
  · unfold headS
    rw [List.map_append]

/-! ### the look -/
def regLook (n : Nat) (A B : List Ru) (i j : Int) (c : Cu) (most : Int) : List WideI × Bool × Int :=
  match mIJ A B i j with
  | none => (hd (fun _ => 0), false, 0)
  | some m => bif cMeetOk m c then ansS (LookS n (cMeet m c) (headS A B i.toNat j.toNat) most) else (hd (fun _ => 0), false, 0)
theorem region_look (n : Nat) (hn : 4000 ≤ n) (A B : List Ru) (ga gb : List Group) (i j : Int) (c : Cu) (most : Int) (hm : most ≤ 9223372036854775807) (hL : (A.length + B.length) * 768 ≤ 140737488355328) (hAB : A.length + B.length < n) :
    region_Look n (A.map ru, ga) (B.map ru, gb) i j (cu c) most = some (regLook n A B i j c most) := by
  unfold region_Look regLook
  rw [← hd_zero', region_meet n (by omega), obind_some]
  cases h : mIJ A B i j with
  | none => rfl
  | some m =>
    obtain ⟨i', j', rfl, rfl, h'⟩ := mIJ_in h
    obtain ⟨hi, hj⟩ := mN_lt h'
    have hl := headS_len A B i' j'
    have e1 := cube_meet n (by omega) m c
    simp only [outM, cond_true, e1, obind_some]
    cases cMeetOk m c with
    | false => rfl
    | true =>
      have e2 := region_ahead n A B ga gb i' j' (by omega) (by omega) hL hAB
      have e3 := cover_look n hn (cMeet m c) (headS A B i' j') most hm (by omega) (by omega)
      simp only [cond_true, Bool.not_true, cond_false, e2, obind_some, e3, Int.toNat_natCast]
theorem ref37_look (n : Nat) (hn : 4000 ≤ n) (A B : List Ru) (ga gb : List Group) (i j : Int) (c : Cu) (most : Int) (hm : most ≤ 9223372036854775807) (hL : (A.length + B.length) * 768 ≤ 140737488355328) (hAB : A.length + B.length < n) :
    ref37_Look n (A.map ru, ga) (B.map ru, gb) i j (cu c) most = some (regLook n A B i j c most) := by
  unfold ref37_Look regLook
  rw [← hd_zero', ref37_meet n (by omega), obind_some]
  cases h : mIJ A B i j with
  | none => rfl
  | some m =>
    obtain ⟨i', j', rfl, rfl, h'⟩ := mIJ_in h
    obtain ⟨hi, hj⟩ := mN_lt h'
    have hl := headS_len A B i' j'
    have e1 := ref06_meet n (by omega) m c
    simp only [outM, e1, obind_some, Bool.not_true, cond_false]
    cases cMeetOk m c with
    | false => rfl
    | true =>
      obtain ⟨a1, a2, a3, a4, a5, a6⟩ := ahead_ref n A B i' j' (by omega) (by omega) hL hAB
      have h1 : decide ((0 : Int) ≤ (i' : Int)) = true := decide_eq_true (by omega)
      have h3 : decide ((0 : Int) ≤ (j' : Int)) = true := decide_eq_true (by omega)
      have e3 := ref08_look_eq n hn (cMeet m c) (headS A B i' j') most hm (by omega) (by omega)
      simp only [cond_true, Bool.not_true, cond_false, List.length_map (f := ru), h1, h3, a5, a6, Bool.and_self, Int.toNat_natCast, a1, a2, obind_some, a3, a4, e3]

/-! ### which pairs meet -/
abbrev Pa := Nat × Nat × Cu
def rowP (A B : List Ru) (i : Nat) : Nat → Nat → List Pa
  | 0, _ => []
  | d + 1, j => match mN A B i j with
    | some m => (i, j, m) :: rowP A B i d (j + 1)
    | none => rowP A B i d (j + 1)
def allP (A B : List Ru) : Nat → Nat → List Pa
  | 0, _ => []
  | d + 1, i => rowP A B i B.length 0 ++ allP A B d (i + 1)
theorem rowP_mem (A B : List Ru) (i : Nat) : ∀ (d j : Nat) (p : Pa), p ∈ rowP A B i d j → p.1 = i ∧ mN A B i p.2.1 = some p.2.2
  | 0, _, _, h => by cases h
  | d + 1, j, p, h => by
    unfold rowP at h
    cases hm : mN A B i j with
    | none => rw [hm] at h; exact rowP_mem A B i d (j + 1) p h
    | some m =>
      rw [hm] at h
      rcases List.mem_cons.1 h with h | h
      · subst h; exact ⟨rfl, hm⟩
      · exact rowP_mem A B i d (j + 1) p h
theorem allP_mem (A B : List Ru) : ∀ (d i : Nat) (p : Pa), p ∈ allP A B d i → mN A B p.1 p.2.1 = some p.2.2
  | 0, _, _, h => by cases h
  | d + 1, i, p, h => by
    unfold allP at h
    rcases List.mem_append.1 h with h | h
    · obtain ⟨h1, h2⟩ := rowP_mem A B i _ _ p h
      rw [h1]; exact h2
    · exact allP_mem A B d (i + 1) p h
theorem rowP_in (A B : List Ru) (i k : Nat) (m : Cu) (hm : mN A B i k = some m) : ∀ (d j : Nat), j ≤ k → k < j + d → (i, k, m) ∈ rowP A B i d j
  | 0, _, h1, h2 => by omega
  | d + 1, j, h1, h2 => by
    unfold rowP
    by_cases e : j = k
    · subst e
      rw [hm]; exact List.mem_cons_self ..
    · have := rowP_in A B i k m hm d (j + 1) (by omega) (by omega)
      cases mN A B i j with
      | none => exact this
      | some m' => exact List.mem_cons_of_mem _ this
theorem allP_in (A B : List Ru) (i k : Nat) (m : Cu) (hm : mN A B i k = some m) : ∀ (d s : Nat), s ≤ i → i < s + d → (i, k, m) ∈ allP A B d s
  | 0, _, h1, h2 => by omega
  | d + 1, s, h1, h2 => by
    unfold allP
    by_cases e : s = i
    · subst e
      exact List.mem_append_left _ (rowP_in A B s k m hm _ _ (Nat.zero_le _) (by have := mN_lt hm; omega))
    · exact List.mem_append_right _ (allP_in A B i k m hm d (s + 1) (by omega) (by omega))
theorem rowP_len (A B : List Ru) (i : Nat) : ∀ (d j : Nat), (rowP A B i d j).length ≤ d
  | 0, _ => Nat.le_refl _
  | d + 1, j => by
    unfold rowP
    have := rowP_len A B i d (j + 1)
    cases mN A B i j with
    | none => exact Nat.le_succ_of_le this
    | some m => exact Nat.succ_le_succ this
theorem allP_len (A B : List Ru) : ∀ (d i : Nat), (allP A B d i).length ≤ d * B.length
  | 0, _ => Nat.zero_le _
  | d + 1, i => by
    unfold allP
    have h1 := rowP_len A B i B.length 0
    have h2 := allP_len A B d (i + 1)
    rw [List.length_append, Nat.succ_mul]
    omega

def outP (p : Pa) : List Int × List TernI := ([(p.1 : Int), (p.2.1 : Int)], cu p.2.2)
def twoP (p : Pa) : List Int := [(p.1 : Int), (p.2.1 : Int)]
def oneP (p : Pa) : Int × Int := ((p.1 : Int), (p.2.1 : Int))
theorem succN (i : Nat) (h : i ≤ 4611686018427387904) : IntKind.wrap .i64 ((i : Int) + 1) = ((i + 1 : Nat) : Int) := by
  rw [w64 (by omega) (by omega)]; omega
theorem obind_ret {α : Type} (x : Option α) : obind x (fun z => some z) = x := by cases x <;> rfl
theorem obind_cat {α : Type} (x : Option (List α)) (l : List α) (y : α) : obind (obind x fun z => some (l ++ z)) (fun z => some (y :: z)) = obind x fun z => some ((y :: l) ++ z) := by cases x <;> rfl
theorem pairs_row (n : Nat) (hn : 24 < n) (A B : List Ru) (ga gb : List Group) (i : Nat) (v : Int) (hB : B.length ≤ 4611686018427387904) (k0 : Int → Int → Both → Option (List (List Int × Cube))) : ∀ (d m j : Nat), j + d = B.length → d < m →
    region_both_pairs_c.l1 n (i : Int) v (i : Int) ((B.length : Nat) : Int) ((A.map ru, ga), (B.map ru, gb)) k0 m (j : Int) = obind (k0 v (IntKind.wrap .i64 ((i : Int) + 1)) ((A.map ru, ga), (B.map ru, gb))) fun z => some ((rowP A B i d j).map outP ++ z)
  | 0, m + 1, j, hj, hm => by
    have : ¬ (j : Int) < ((B.length : Nat) : Int) := by omega
    simp only [region_both_pairs_c.l1, region_both_pairs_c.s1, this, decide_false, cond_false, rowP, List.map_nil, List.nil_append]
    exact (obind_ret _).symm
  | d + 1, m + 1, j, hj, hm => by
    have ih := pairs_row n hn A B ga gb i v hB k0 d m (j + 1) (by omega) (by omega)
    have : (j : Int) < ((B.length : Nat) : Int) := by omega
    simp only [region_both_pairs_c.l1, region_both_pairs_c.s1, this, decide_true, cond_true, region_meet n hn, obind_some, mIJ_nat, rowP, succN j (by omega), ih]
    cases mN A B i j with
    | none => rfl
    | some mm => exact obind_cat _ _ _
theorem pairs_all (n : Nat) (hn : 24 < n) (A B : List Ru) (ga gb : List Group) (hA : A.length ≤ 4611686018427387904) (hB : B.length ≤ 4611686018427387904) (hBn : B.length < n) : ∀ (d m i : Nat), i + d = A.length → d < m →
    region_both_pairs_c.l0 n ((A.length : Nat) : Int) ((A.map ru, ga), (B.map ru, gb)) m (i : Int) = some ((allP A B d i).map outP)
  | 0, m + 1, i, hj, hm => by
    have : ¬ (i : Int) < ((A.length : Nat) : Int) := by omega
    simp only [region_both_pairs_c.l0, region_both_pairs_c.s0, this, decide_false, cond_false, allP, List.map_nil]
  | d + 1, m + 1, i, hj, hm => by
    have ih := pairs_all n hn A B ga gb hA hB hBn d m (i + 1) (by omega) (by omega)
    have hlt : (i : Int) < ((A.length : Nat) : Int) := by omega
    simp only [region_both_pairs_c.l0, region_both_pairs_c.s0, hlt, decide_true, cond_true, List.length_map]
    have hr := pairs_row n hn A B ga gb i ((A.length : Nat) : Int) hB (fun v11'' v12'' t_1'' => region_both_pairs_c.l0 n v11'' t_1'' m v12'') B.length n 0 (by omega) hBn
    rw [show ((0 : Nat) : Int) = 0 from rfl] at hr
    rw [hr, succN i (by omega), ih, obind_some]
    simp only [allP, List.map_append]
theorem region_pairs_c (n : Nat) (hn : 24 < n) (A B : List Ru) (ga gb : List Group) (hA : A.length ≤ 4611686018427387904) (hB : B.length ≤ 4611686018427387904) (hAn : A.length < n) (hBn : B.length < n) :
    region_both_pairs_c n ((A.map ru, ga), (B.map ru, gb)) = some ((allP A B A.length 0).map outP) := by
  have := pairs_all n hn A B ga gb hA hB hBn A.length n 0 (by omega) hAn
  simp only [region_both_pairs_c, region_both_pairs_c.s, List.length_map]
  exact this

def bigP (A B : List Ru) : List Pa → Int → Int
  | [], b => b
  | p :: l, b => bigP A B l (maxI b (boundS p.2.2 (headS A B p.1 p.2.1)))
theorem bigP_ge (A B : List Ru) : ∀ (l : List Pa) (b : Int), b ≤ bigP A B l b ∧ ∀ p ∈ l, boundS p.2.2 (headS A B p.1 p.2.1) ≤ bigP A B l b
  | [], b => ⟨Int.le_refl _, fun p h => by cases h⟩
  | q :: l, b => by
    simp only [bigP]
    obtain ⟨h1, h2⟩ := bigP_ge A B l (maxI b (boundS q.2.2 (headS A B q.1 q.2.1)))
    have hm : b ≤ maxI b (boundS q.2.2 (headS A B q.1 q.2.1)) ∧ boundS q.2.2 (headS A B q.1 q.2.1) ≤ maxI b (boundS q.2.2 (headS A B q.1 q.2.1)) := by unfold maxI; split <;> omega
    refine ⟨by omega, fun p hp => ?_⟩
    rcases List.mem_cons.1 hp with h | h
    · subst h; omega
    · exact h2 p h
def regBound (A B : List Ru) : Int := bigP A B (allP A B A.length 0) 0
theorem region_bound_loop (n : Nat) (hn : 128 < n) (A B : List Ru) (ga gb : List Group) (hL : (A.length + B.length) * 768 ≤ 140737488355328) (hAB : A.length + B.length < n) : ∀ (l : List Pa) (b : Int), (∀ p ∈ l, mN A B p.1 p.2.1 = some p.2.2) →
    region_Bound.l0 n ((A.map ru, ga), (B.map ru, gb)) (l.map outP) b = some (bigP A B l b)
  | [], b, _ => rfl
  | p :: l, b, h => by
    obtain ⟨hi, hj⟩ := mN_lt (h p (List.mem_cons_self ..))
    have hl := headS_len A B p.1 p.2.1
    have e2 := region_ahead n A B ga gb p.1 p.2.1 (by omega) (by omega) hL hAB
    have e3 := cover_bound n hn p.2.2 (headS A B p.1 p.2.1) (by omega) (by omega)
    have g1 : List.getD [(p.1 : Int), (p.2.1 : Int)] 0 0 = (p.1 : Int) := rfl
    have g2 : List.getD [(p.1 : Int), (p.2.1 : Int)] 1 0 = (p.2.1 : Int) := rfl
    simp only [List.map_cons, region_Bound.l0, region_Bound.s0, outP, g1, g2, e2, obind_some, e3, bigP]
    exact region_bound_loop n hn A B ga gb hL hAB l _ fun q hq => h q (List.mem_cons_of_mem _ hq)
theorem region_bound (n : Nat) (hn : 128 < n) (A B : List Ru) (ga gb : List Group) (hL : (A.length + B.length) * 768 ≤ 140737488355328) (hAB : A.length + B.length < n) :
    region_Bound n (A.map ru, ga) (B.map ru, gb) = some (regBound A B) := by
  simp only [region_Bound, region_Bound.s, region_pairs_c n (by omega) A B ga gb (by omega) (by omega) (by omega) (by omega), obind_some]
  exact region_bound_loop n hn A B ga gb hL hAB _ 0 fun p hp => allP_mem A B _ _ p hp
end Go.Fn
