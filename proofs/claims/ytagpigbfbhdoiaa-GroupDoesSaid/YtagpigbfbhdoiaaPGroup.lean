/- Groups (chapter 24): what the small functions of both sides come to. -/
import Derived.Test.YtagpigbfbhdoiaaN
import Derived.Test.YtagpigbfbhdoiaaViLoop
set_option maxRecDepth 100000
namespace Go.Fn
open Go Go.Vi
namespace P24

def idxOf {α : Type} (p : α → Bool) : Nat → List α → Int
  | _, [] => -1
  | i, x :: xs => bif p x then (i : Int) else idxOf p (i + 1) xs
theorem idx_nonneg {α : Type} (p : α → Bool) : ∀ (xs : List α) (i : Nat), decide (idxOf p i xs ≥ 0) = xs.any p
  | [], _ => rfl
  | x :: xs, i => by
    unfold idxOf
    cases h : p x with
    | true => simp [h]
    | false => simp only [cond_false, List.any_cons, h, Bool.false_or]; exact idx_nonneg p xs (i + 1)
theorem idx_neg {α : Type} (p : α → Bool) (xs : List α) (i : Nat) : decide (idxOf p i xs < 0) = !xs.any p := by
  rw [← idx_nonneg p xs i]
  by_cases h : idxOf p i xs < 0
  · rw [decide_eq_true h, decide_eq_false (by omega)]; rfl
  · rw [decide_eq_false h, decide_eq_true (by omega)]; rfl
theorem idx_some {α : Type} (p : α → Bool) : ∀ (xs : List α) (i : Nat), 0 ≤ idxOf p i xs → ∃ j x, idxOf p i xs = ((i + j : Nat) : Int) ∧ xs[j]? = some x ∧ p x = true ∧ ∀ y ∈ xs.take j, p y = false
  | [], i, h => absurd h (by show ¬ (0 : Int) ≤ -1; omega)
  | x :: xs, i, h => by
    unfold idxOf at h ⊢
    cases hp : p x with
    | true => exact ⟨0, x, rfl, rfl, hp, by simp⟩
    | false =>
      rw [hp, cond_false] at h
      obtain ⟨j, y, h1, h2, h3, h4⟩ := idx_some p xs (i + 1) h
      refine ⟨j + 1, y, ?_, h2, h3, ?_⟩
      · rw [cond_false, h1]; congr 1; omega
      · intro z hz
        rw [List.take_succ_cons, List.mem_cons] at hz
        rcases hz with rfl | hz
        · exact hp
        · exact h4 z hz
def idxStep {α : Type} (p : α → Bool) : Nat → α → Unit → Option Int ⊕ Unit := fun i x _ => bif p x then .inl (some (i : Int)) else .inr ()
theorem idx_loop {α : Type} (p : α → Bool) : ∀ (xs : List α) (i : Nat), loopL (idxStep p) (fun _ => some (-1)) i xs () = some (idxOf p i xs)
  | [], _ => rfl
  | x :: xs, i => by
    unfold loopL idxOf idxStep
    cases h : p x with
    | true => rfl
    | false => simp only [cond_false]; exact idx_loop p xs (i + 1)

theorem index_Group (n : Nat) (s : List Group) (f : Group → Option Bool) (p : Group → Bool) (hf : ∀ x ∈ s, f x = some (p x)) (hL : s.length ≤ 1000000) (hn : s.length < n) : slices_IndexFunc_Group n s f = some (idxOf p 0 s) := by
  show slices_IndexFunc_Group.l0 n s f s.length n 0 = _
  rw [← idx_loop]
  refine loopL_start (σ := Unit) (fun m _ i => slices_IndexFunc_Group.l0 n s f s.length m i) s (fun m _ i x hx => ?_) (fun m _ => ?_) hn ()
  · simp only [slices_IndexFunc_Group.l0, slices_IndexFunc_Group.s0, lt_of hx, decide_true, cond_true, inRange_of hx, getD_of hx, succ_of hx (by omega), idxStep, hf x (List.mem_of_getElem? hx), obind_some]
    cases p x <;> rfl
  · simp only [slices_IndexFunc_Group.l0, slices_IndexFunc_Group.s0, Int.lt_irrefl, decide_false, cond_false]
theorem contains_Group (n : Nat) (s : List Group) (f : Group → Option Bool) (p : Group → Bool) (hf : ∀ x ∈ s, f x = some (p x)) (hL : s.length ≤ 1000000) (hn : s.length < n) : slices_ContainsFunc_Group n s f = some (s.any p) := by
  unfold slices_ContainsFunc_Group
  rw [index_Group n s f p hf hL hn, obind_some, idx_nonneg]

theorem index_Bucket (n : Nat) (s : List Bucket) (f : Bucket → Option Bool) (p : Bucket → Bool) (hf : ∀ x ∈ s, f x = some (p x)) (hL : s.length ≤ 1000000) (hn : s.length < n) : slices_IndexFunc_Bucket n s f = some (idxOf p 0 s) := by
  show slices_IndexFunc_Bucket.l0 n s f s.length n 0 = _
  rw [← idx_loop]
  refine loopL_start (σ := Unit) (fun m _ i => slices_IndexFunc_Bucket.l0 n s f s.length m i) s (fun m _ i x hx => ?_) (fun m _ => ?_) hn ()
  · simp only [slices_IndexFunc_Bucket.l0, slices_IndexFunc_Bucket.s0, lt_of hx, decide_true, cond_true, inRange_of hx, getD_of hx, succ_of hx (by omega), idxStep, hf x (List.mem_of_getElem? hx), obind_some]
    cases p x <;> rfl
  · simp only [slices_IndexFunc_Bucket.l0, slices_IndexFunc_Bucket.s0, Int.lt_irrefl, decide_false, cond_false]
theorem contains_Bucket (n : Nat) (s : List Bucket) (f : Bucket → Option Bool) (p : Bucket → Bool) (hf : ∀ x ∈ s, f x = some (p x)) (hL : s.length ≤ 1000000) (hn : s.length < n) : slices_ContainsFunc_Bucket n s f = some (s.any p) := by
  unfold slices_ContainsFunc_Bucket
  rw [index_Bucket n s f p hf hL hn, obind_some, idx_nonneg]

theorem index_int (n : Nat) (s : List Int) (f : Int → Option Bool) (p : Int → Bool) (hf : ∀ x ∈ s, f x = some (p x)) (hL : s.length ≤ 1000000) (hn : s.length < n) : slices_IndexFunc_int n s f = some (idxOf p 0 s) := by
  show slices_IndexFunc_int.l0 n s f s.length n 0 = _
  rw [← idx_loop]
  refine loopL_start (σ := Unit) (fun m _ i => slices_IndexFunc_int.l0 n s f s.length m i) s (fun m _ i x hx => ?_) (fun m _ => ?_) hn ()
  · simp only [slices_IndexFunc_int.l0, slices_IndexFunc_int.s0, lt_of hx, decide_true, cond_true, inRange_of hx, getD_of hx, succ_of hx (by omega), idxStep, hf x (List.mem_of_getElem? hx), obind_some]
    cases p x <;> rfl
  · simp only [slices_IndexFunc_int.l0, slices_IndexFunc_int.s0, Int.lt_irrefl, decide_false, cond_false]
theorem contains_int (n : Nat) (s : List Int) (f : Int → Option Bool) (p : Int → Bool) (hf : ∀ x ∈ s, f x = some (p x)) (hL : s.length ≤ 1000000) (hn : s.length < n) : slices_ContainsFunc_int n s f = some (s.any p) := by
  unfold slices_ContainsFunc_int
  rw [index_int n s f p hf hL hn, obind_some, idx_nonneg]

theorem index_GroupMod (n : Nat) (s : List GroupMod) (f : GroupMod → Option Bool) (p : GroupMod → Bool) (hf : ∀ x ∈ s, f x = some (p x)) (hL : s.length ≤ 1000000) (hn : s.length < n) : slices_IndexFunc_GroupMod n s f = some (idxOf p 0 s) := by
  show slices_IndexFunc_GroupMod.l0 n s f s.length n 0 = _
  rw [← idx_loop]
  refine loopL_start (σ := Unit) (fun m _ i => slices_IndexFunc_GroupMod.l0 n s f s.length m i) s (fun m _ i x hx => ?_) (fun m _ => ?_) hn ()
  · simp only [slices_IndexFunc_GroupMod.l0, slices_IndexFunc_GroupMod.s0, lt_of hx, decide_true, cond_true, inRange_of hx, getD_of hx, succ_of hx (by omega), idxStep, hf x (List.mem_of_getElem? hx), obind_some]
    cases p x <;> rfl
  · simp only [slices_IndexFunc_GroupMod.l0, slices_IndexFunc_GroupMod.s0, Int.lt_irrefl, decide_false, cond_false]
theorem contains_GroupMod (n : Nat) (s : List GroupMod) (f : GroupMod → Option Bool) (p : GroupMod → Bool) (hf : ∀ x ∈ s, f x = some (p x)) (hL : s.length ≤ 1000000) (hn : s.length < n) : slices_ContainsFunc_GroupMod n s f = some (s.any p) := by
  unfold slices_ContainsFunc_GroupMod
  rw [index_GroupMod n s f p hf hL hn, obind_some, idx_nonneg]

/-! ### small lists -/
def bsB (b : List Bucket) : Bool := decide (b.length ≤ 6) && b.all fun x => decide (x.2.2.2.length ≤ 12)
def Bs (b : List Bucket) : Prop := b.length ≤ 6 ∧ ∀ x ∈ b, x.2.2.2.length ≤ 12
def Gs (l : List Group) : Prop := l.length ≤ 10 ∧ ∀ g ∈ l, Bs g.2.2
theorem Bs_of {b : List Bucket} : bsB b = true ↔ Bs b := by simp [bsB, Bs, List.all_eq_true]
theorem buckets (n : Nat) (b : List Bucket) (hn : 100 ≤ n) : plain_Buckets n b 6 = some (bsB b) := by
  unfold plain_Buckets bsB
  by_cases h : b.length ≤ 6
  · rw [decide_eq_true h, decide_eq_true (show ((b.length : Nat) : Int) ≤ 6 by omega)]
    simp only [beq_self_eq_true, cond_true, Bool.true_and]
    rw [contains_Bucket n b _ (fun x => !decide (x.2.2.2.length ≤ 12)) (fun x _ => ?_) (by omega) (by omega), obind_some]
    · congr 1
      rw [List.any_eq_not_all_not]; simp
    · show some (!(decide (((List.length x.2.2.2 : Nat) : Int) ≤ 12))) = _
      congr 2
      by_cases h2 : x.2.2.2.length ≤ 12
      · rw [decide_eq_true h2, decide_eq_true (by omega)]
      · rw [decide_eq_false h2, decide_eq_false (by omega)]
  · rw [decide_eq_false h, decide_eq_false (show ¬ ((b.length : Nat) : Int) ≤ 6 by omega)]
    rfl
theorem groups (n : Nat) (l : List Group) (hn : 100 ≤ n) : ∃ r, plain_Groups n l 10 6 = some r ∧ (r = true → Gs l) := by
  unfold plain_Groups
  by_cases h : l.length ≤ 10
  · rw [decide_eq_true (show ((l.length : Nat) : Int) ≤ 10 by omega)]
    simp only [beq_self_eq_true, cond_true]
    rw [contains_Group n l _ (fun g => !bsB g.2.2) (fun x _ => ?_) (by omega) (by omega), obind_some]
    · refine ⟨_, rfl, fun hr => ⟨h, fun g hg => Bs_of.1 ?_⟩⟩
      rw [Bool.not_eq_true', List.any_eq_false] at hr
      have := hr g hg
      simpa using this
    · show (obind (plain_Buckets n x.2.2 6) fun r6 => some (!r6)) = _
      rw [buckets n _ hn, obind_some]
  · rw [decide_eq_false (show ¬ ((l.length : Nat) : Int) ≤ 10 by omega)]
    exact ⟨false, rfl, fun h => by cases h⟩

/-! ### places -/
def pl (l : List Group) (id : Int) : Int := idxOf (fun g => g.1 == id) 0 l
theorem place (n : Nat) (l : List Group) (id : Int) (hL : l.length ≤ 1000) (hn : l.length < n) : group_place n l id = some (pl l id) := by
  unfold group_place
  rw [index_Group n l (fun x => some (group_place_1 x id)) (fun g => g.1 == id) (fun _ _ => rfl) (by omega) hn, obind_some]; rfl
theorem ref_place (n : Nat) (l : List Group) (id : Int) (hL : l.length ≤ 1000) (hn : l.length < n) : ref24_place n l id = some (pl l id) := by
  show ref24_place.l0 n l id n 0 = _
  unfold pl
  rw [← idx_loop]
  refine loopL_start (σ := Unit) (fun m _ i => ref24_place.l0 n l id m i) l (fun m _ i x hx => ?_) (fun m _ => ?_) hn ()
  · simp only [ref24_place.l0, ref24_place.s0, lt_of hx, decide_true, cond_true, inRange_of hx, getD_of hx, succ_of hx (by omega), idxStep]
    cases (x.1 == id) <;> rfl
  · simp only [ref24_place.l0, ref24_place.s0, Int.lt_irrefl, decide_false, cond_false]

/-! ### names -/
def agroups (as : List Action) : List Int := (as.filter fun a => a.1 == 22).map fun a => a.2.2.2.1
def bnames (b : List Bucket) : List Int := b.flatMap fun x => agroups x.2.2.2
theorem ag_len (as : List Action) : (agroups as).length ≤ as.length := by
  unfold agroups; rw [List.length_map]; exact List.length_filter_le _ _
theorem bn_len : ∀ (b : List Bucket), (∀ x ∈ b, x.2.2.2.length ≤ 12) → (bnames b).length ≤ 12 * b.length
  | [], _ => Nat.le_refl _
  | x :: b, h => by
    have h1 := bn_len b fun y hy => h y (List.mem_cons_of_mem _ hy)
    have h2 := ag_len x.2.2.2
    have h3 := h x List.mem_cons_self
    have e : bnames (x :: b) = agroups x.2.2.2 ++ bnames b := by unfold bnames; rw [List.flatMap_cons]
    rw [e, List.length_append, List.length_cons]; omega
theorem Bs.names {b : List Bucket} (h : Bs b) : (bnames b).length ≤ 72 := by
  have := bn_len b h.2
  have := h.1
  omega
def agStep : Nat → Action → List Int → Option (List Int) ⊕ List Int := fun _ x out => bif x.1 == 22 then (bif decide ((List.length out + 1) * 8 ≤ 140737488355328) then .inr (out ++ [x.2.2.2.1]) else .inl none) else .inr out
theorem ag_loop : ∀ (xs : List Action) (i : Nat) (out : List Int), out.length + xs.length ≤ 1000 → loopL agStep some i xs out = some (out ++ agroups xs)
  | [], _, out, _ => by unfold loopL; rw [show agroups [] = [] from rfl, List.append_nil]
  | x :: xs, i, out, h => by
    rw [List.length_cons] at h
    unfold loopL agStep agroups
    cases hx : x.1 == 22 with
    | true =>
      rw [decide_eq_true (show (List.length out + 1) * 8 ≤ 140737488355328 by omega)]
      simp only [cond_true, List.filter_cons, hx, if_true, List.map_cons]
      have := ag_loop xs (i + 1) (out ++ [x.2.2.2.1]) (by rw [List.length_append]; simp; omega)
      unfold agStep at this
      rw [this, List.append_assoc]; rfl
    | false =>
      simp only [cond_false, List.filter_cons, hx, Bool.false_eq_true, if_false]
      exact ag_loop xs (i + 1) out (by omega)
theorem acts_groups (n : Nat) (as : List Action) (hL : as.length ≤ 12) (hn : 100 ≤ n) : acts_Groups n as = some (agroups as) := by
  unfold acts_Groups
  have key : acts_of_int n as 22 (fun (x22 : Action) => some (acts_Groups_1_c x22)) = some (agroups as) := by
    show acts_of_int.l0 n 22 (fun (x22 : Action) => some (acts_Groups_1_c x22)) as ((as.length : Nat) : Int) n [] 0 = _
    rw [show some (agroups as) = some ([] ++ agroups as) by rw [List.nil_append], ← ag_loop as 0 [] (by simp; omega)]
    refine loopL_start (fun m out i => acts_of_int.l0 n 22 (fun (x22 : Action) => some (acts_Groups_1_c x22)) as ((as.length : Nat) : Int) m out i) as (fun m out i x hx => ?_) (fun m out => ?_) (by omega) []
    · simp only [acts_of_int.l0, acts_of_int.s0, lt_of hx, decide_true, cond_true, inRange_of hx, getD_of hx, succ_of hx (by omega), agStep, obind_some, List.length_cons, List.length_nil, Nat.zero_add, acts_Groups_1_c]
      cases (x.1 == 22) with
      | false => rfl
      | true => cases decide ((List.length out + 1) * 8 ≤ 140737488355328) <;> rfl
    · simp only [acts_of_int.l0, acts_of_int.s0, Int.lt_irrefl, decide_false, cond_false]
  rw [key, obind_some]
theorem ref_acts_groups (n : Nat) (as : List Action) (hL : as.length ≤ 12) (hn : 100 ≤ n) : ref13_Groups n as = some (agroups as) := by
  show ref13_Groups.l0 n as n [] 0 = _
  rw [show some (agroups as) = some ([] ++ agroups as) by rw [List.nil_append], ← ag_loop as 0 [] (by simp; omega)]
  refine loopL_start (fun m out i => ref13_Groups.l0 n as m out i) as (fun m out i x hx => ?_) (fun m out => ?_) (by omega) []
  · simp only [ref13_Groups.l0, ref13_Groups.s0, lt_of hx, decide_true, cond_true, inRange_of hx, getD_of hx, succ_of hx (by omega), agStep, List.length_cons, List.length_nil, Nat.zero_add]
    cases (x.1 == 22) with
    | false => rfl
    | true => cases decide ((List.length out + 1) * 8 ≤ 140737488355328) <;> rfl
  · simp only [ref13_Groups.l0, ref13_Groups.s0, Int.lt_irrefl, decide_false, cond_false]
def bnStep : Nat → Bucket → List Int → Option (List Int) ⊕ List Int := fun _ x out => bif decide ((List.length out + List.length (agroups x.2.2.2)) * 8 ≤ 140737488355328) then .inr (out ++ agroups x.2.2.2) else .inl none
theorem bn_loop : ∀ (xs : List Bucket) (i : Nat) (out : List Int), out.length + (bnames xs).length ≤ 1000 → loopL bnStep some i xs out = some (out ++ bnames xs)
  | [], _, out, _ => by unfold loopL; rw [show bnames [] = [] from rfl, List.append_nil]
  | x :: xs, i, out, h => by
    have e : bnames (x :: xs) = agroups x.2.2.2 ++ bnames xs := by unfold bnames; rw [List.flatMap_cons]
    rw [e, List.length_append] at h
    unfold loopL
    rw [show bnStep i x out = .inr (out ++ agroups x.2.2.2) by unfold bnStep; rw [decide_eq_true (by omega)]; rfl]
    show loopL bnStep some (i + 1) xs (out ++ agroups x.2.2.2) = _
    rw [bn_loop xs (i + 1) _ (by rw [List.length_append]; omega), e, List.append_assoc]
theorem names (n : Nat) (b : List Bucket) (hb : Bs b) (hn : 100 ≤ n) : group_Names n b = some (bnames b) := by
  have hL := hb.1
  show group_Names.l0 n b ((b.length : Nat) : Int) n [] 0 = _
  rw [show some (bnames b) = some ([] ++ bnames b) by rw [List.nil_append], ← bn_loop b 0 [] (by have := hb.names; simp; omega)]
  refine loopL_start (fun m out i => group_Names.l0 n b ((b.length : Nat) : Int) m out i) b (fun m out i x hx => ?_) (fun m out => ?_) (by omega) []
  · simp only [group_Names.l0, group_Names.s0, lt_of hx, decide_true, cond_true, inRange_of hx, getD_of hx, succ_of hx (by omega), bnStep, acts_groups n _ (hb.2 x (List.mem_of_getElem? hx)) hn, obind_some]
    cases decide ((List.length out + List.length (agroups x.2.2.2)) * 8 ≤ 140737488355328) <;> rfl
  · simp only [group_Names.l0, group_Names.s0, Int.lt_irrefl, decide_false, cond_false]
theorem ref_names (n : Nat) (b : List Bucket) (hb : Bs b) (hn : 100 ≤ n) : ref24_Names n b = some (bnames b) := by
  have hL := hb.1
  show ref24_Names.l0 n b n [] 0 = _
  rw [show some (bnames b) = some ([] ++ bnames b) by rw [List.nil_append], ← bn_loop b 0 [] (by have := hb.names; simp; omega)]
  refine loopL_start (fun m out i => ref24_Names.l0 n b m out i) b (fun m out i x hx => ?_) (fun m out => ?_) (by omega) []
  · simp only [ref24_Names.l0, ref24_Names.s0, lt_of hx, decide_true, cond_true, inRange_of hx, getD_of hx, succ_of hx (by omega), bnStep, ref_acts_groups n _ (hb.2 x (List.mem_of_getElem? hx)) hn, obind_some]
    cases decide ((List.length out + List.length (agroups x.2.2.2)) * 8 ≤ 140737488355328) <;> rfl
  · simp only [ref24_Names.l0, ref24_Names.s0, Int.lt_irrefl, decide_false, cond_false]
theorem names_nil (n : Nat) (hn : 100 ≤ n) : group_Names n [] = some [] := names n [] ⟨by simp, fun x h => by cases h⟩ hn

/-! ### new memory -/
theorem copies (n : Nat) (b : List Bucket) (hb : Bs b) (hn : 100 ≤ n) : group_copies n b = some b := by
  have hL := hb.1
  have hcl : slices_Clone_Bucket b = some b := by
    unfold slices_Clone_Bucket; rw [decide_eq_true (by simp; omega)]; rfl
  show (obind (slices_Clone_Bucket b) fun r35 => group_copies.l0 n ((List.length r35 : Nat) : Int) n 0 r35) = _
  rw [hcl, obind_some]
  have key := loopL_start (R := List Bucket) (step := fun _ _ (_ : Unit) => .inr ()) (fin := fun _ => some b) (fun m _ i => group_copies.l0 n ((List.length b : Nat) : Int) m i b) b (fun m _ i x hx => ?_) (fun m _ => ?_) (m := n) (by omega) ()
  · rw [key]
    have hl : ∀ (xs : List Bucket) (i : Nat), loopL (fun _ _ (_ : Unit) => Sum.inr ()) (fun _ => some b) i xs () = some b := by
      intro xs
      induction xs with
      | nil => intro i; rfl
      | cons y ys ih => intro i; unfold loopL; exact ih (i + 1)
    exact hl b 0
  · have hca : slices_Clone_Action x.2.2.2 = some x.2.2.2 := by
      have := hb.2 x (List.mem_of_getElem? hx)
      unfold slices_Clone_Action; rw [decide_eq_true (by simp; omega)]; rfl
    have hgn : List.getD b i (0, 0, 0, ([] : List Action)) = x := by have := getD_of (d := (0, 0, 0, ([] : List Action))) hx; rwa [Int.toNat_natCast] at this
    have hset : List.set b i x = b := by
      obtain ⟨h1, h2⟩ := List.getElem?_eq_some_iff.1 hx
      rw [← h2]; exact List.set_getElem_self h1
    simp only [group_copies.l0, group_copies.s0, lt_of hx, decide_true, cond_true, inRange_of hx, hgn, succ_of hx (by omega), hca, obind_some, Int.toNat_natCast, hset]
  · simp only [group_copies.l0, group_copies.s0, Int.lt_irrefl, decide_false, cond_false]
theorem fresh (n : Nat) (l : List Group) (hl : l.length ≤ 1000) (hb : ∀ g ∈ l, Bs g.2.2) (hn : 100 ≤ n) (hn2 : l.length < n) : group_fresh n l = some l := by
  have hcl : slices_Clone_Group l = some l := by
    unfold slices_Clone_Group; rw [decide_eq_true (by simp; omega)]; rfl
  show (obind (slices_Clone_Group l) fun r35 => group_fresh.l0 n ((List.length r35 : Nat) : Int) n 0 r35) = _
  rw [hcl, obind_some]
  have key := loopL_start (R := List Group) (step := fun _ _ (_ : Unit) => .inr ()) (fin := fun _ => some l) (fun m _ i => group_fresh.l0 n ((List.length l : Nat) : Int) m i l) l (fun m _ i x hx => ?_) (fun m _ => ?_) (m := n) hn2 ()
  · rw [key]
    have hl : ∀ (xs : List Group) (i : Nat), loopL (fun _ _ (_ : Unit) => Sum.inr ()) (fun _ => some l) i xs () = some l := by
      intro xs
      induction xs with
      | nil => intro i; rfl
      | cons y ys ih => intro i; unfold loopL; exact ih (i + 1)
    exact hl l 0
  · have hca := copies n x.2.2 (hb x (List.mem_of_getElem? hx)) hn
    have hgn : List.getD l i (0, 0, ([] : List Bucket)) = x := by have := getD_of (d := (0, 0, ([] : List Bucket))) hx; rwa [Int.toNat_natCast] at this
    have hset : List.set l i x = l := by
      obtain ⟨h1, h2⟩ := List.getElem?_eq_some_iff.1 hx
      rw [← h2]; exact List.set_getElem_self h1
    simp only [group_fresh.l0, group_fresh.s0, lt_of hx, decide_true, cond_true, inRange_of hx, hgn, succ_of hx (by omega), hca, obind_some, Int.toNat_natCast, hset]
  · simp only [group_fresh.l0, group_fresh.s0, Int.lt_irrefl, decide_false, cond_false]
end P24
end Go.Fn
