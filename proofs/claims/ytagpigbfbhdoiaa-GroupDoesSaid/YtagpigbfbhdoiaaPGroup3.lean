/- Groups (chapter 24): what is left; which lists are the same. -/
import Derived.Test.YtagpigbfbhdoiaaPGroup2
set_option maxRecDepth 100000
namespace Go.Fn
open Go Go.Vi
namespace P24

/-! ### what is left -/
theorem sub_take {α : Type} (l : List α) (i : Nat) : sub l 0 i = l.take i := by unfold sub; simp
theorem take_step {α : Type} (s : List α) (j : Nat) (x : α) (h : s[j]? = some x) : s.take (j + 1) = s.take j ++ [x] := by
  rw [List.take_add_one, h]; rfl
theorem filt1 (p : Group → Bool) (x : Group) : [x].filter (fun g => !p g) = bif p x then [] else [x] := by
  rw [List.filter_cons]; cases p x <;> rfl
theorem delete_loop (n : Nat) (del : Group → Option Bool) (p : Group → Bool) (hp : ∀ g, del g = some (p g)) (s : List Group) (hs : s.length ≤ 1000) : ∀ (k i j m : Nat) (s' : List Group), j + k = s.length → k < m → i ≤ j → s'.length = s.length → s'.drop j = s.drop j →
    s'.take i = (s.take j).filter (fun g => !p g) → slices_DeleteFunc_Group.l0 n del m (i : Int) (j : Int) s' = some (s.filter fun g => !p g)
  | 0, i, j, m + 1, s', hk, _, hij, hlen, _, ht => by
    have hj : j = s.length := by omega
    subst hj
    rw [List.take_length] at ht
    have hle : (s'.take i).length = i := by rw [List.length_take]; omega
    simp only [slices_DeleteFunc_Group.l0, slices_DeleteFunc_Group.s0, hlen, Int.lt_irrefl, decide_false, cond_false]
    rw [decide_eq_true (show (0 : Int) ≤ (i : Int) by omega), decide_eq_true (show (i : Int) ≤ ((s.length : Nat) : Int) by omega)]
    simp only [Bool.and_self, cond_true, Int.toNat_natCast]
    rw [decide_eq_true (p := (i : Int) ≤ (((s'.take i ++ List.replicate (s.length - i) ((0, 0, []) : Group)).length : Nat) : Int)) (by rw [List.length_append, hle]; omega)]
    rw [Bool.and_self, cond_true, sub_take, List.take_append_of_le_length (by omega), List.take_take, Nat.min_self, ht]
  | k + 1, i, j, m + 1, s', hk, hm, hij, hlen, hd, ht => by
    have hjl : j < s.length := by omega
    have hx : s[j]? = some s[j] := List.getElem?_eq_getElem hjl
    have hx' : s'[j]? = some s[j] := by
      have := congrArg (fun l => l[0]?) hd
      simp only [List.getElem?_drop, Nat.add_zero] at this
      rw [this, hx]
    have hd' : s'.drop (j + 1) = s.drop (j + 1) := by
      have := congrArg (List.drop 1) hd
      simpa [List.drop_drop, Nat.add_comm] using this
    have hin : inRange (j : Int) s'.length = true := inRange_of hx'
    have hlt : decide ((j : Int) < ((s'.length : Nat) : Int)) = true := decide_eq_true (lt_of hx')
    have hgd : List.getD s' (Int.toNat (j : Int)) (0, 0, ([] : List Bucket)) = s[j] := getD_of hx'
    have hsj : IntKind.wrap .i64 ((j : Int) + 1) = ((j + 1 : Nat) : Int) := by rw [succ_of hx' (by omega)]; omega
    have hsi : IntKind.wrap .i64 ((i : Int) + 1) = ((i + 1 : Nat) : Int) := by rw [w64 (by omega) (by omega)]; omega
    simp only [slices_DeleteFunc_Group.l0, slices_DeleteFunc_Group.s0, hlt, cond_true, hin, hgd, hp, obind_some, hsj, hsi]
    have htk : (s.take (j + 1)).filter (fun g => !p g) = (s.take j).filter (fun g => !p g) ++ (bif p s[j] then [] else [s[j]]) := by
      rw [take_step s j _ hx, List.filter_append, filt1]
    cases hpx : p s[j] with
    | true =>
      rw [hpx] at htk
      exact delete_loop n del p hp s hs k i (j + 1) m s' (by omega) (by omega) (by omega) hlen hd' (by rw [htk, ht]; simp)
    | false =>
      rw [hpx] at htk
      have hii : inRange (i : Int) s'.length = true := inRange_true (by omega) (by omega)
      simp only [Bool.not_false, cond_true, hii, Int.toNat_natCast]
      refine delete_loop n del p hp s hs k (i + 1) (j + 1) m (s'.set i s[j]) (by omega) (by omega) (by omega) (by rw [List.length_set]; exact hlen) ?_ ?_
      · rw [List.drop_set_of_lt (by omega), hd']
      · rw [htk, ← ht, take_step (s'.set i s[j]) i s[j] (List.getElem?_set_self (by omega)), List.take_set_of_le (Nat.le_refl i)]; rfl
theorem delete (n : Nat) (del : Group → Option Bool) (p : Group → Bool) (hp : ∀ g, del g = some (p g)) (s : List Group) (hs : s.length ≤ 50) (hn : 100 ≤ n) : slices_DeleteFunc_Group n s del = some (s.filter fun g => !p g) := by
  show (obind (slices_IndexFunc_Group n s del) fun r40 => bif (r40 == (-1)) then some s else slices_DeleteFunc_Group.l0 n del n r40 (IntKind.wrap .i64 (r40 + 1)) s) = _
  rw [index_Group n s del p (fun x _ => hp x) (by omega) (by omega), obind_some]
  by_cases h : 0 ≤ idxOf p 0 s
  · obtain ⟨j, x, h1, h2, h3, h4⟩ := idx_some p s 0 h
    rw [Nat.zero_add] at h1
    have hjl := (List.getElem?_eq_some_iff.1 h2).1
    rw [h1, show ((j : Int) == (-1)) = false from beq_eq_false_iff_ne.2 (by omega), cond_false, show IntKind.wrap .i64 ((j : Int) + 1) = ((j + 1 : Nat) : Int) by rw [w64 (by omega) (by omega)]; omega]
    refine delete_loop n del p hp s (by omega) (s.length - (j + 1)) j (j + 1) n s (by omega) (by omega) (by omega) rfl rfl ?_
    have h5 : (s.take j).filter (fun g => !p g) = s.take j := List.filter_eq_self.2 fun y hy => by rw [h4 y hy]; rfl
    rw [take_step s j x h2, List.filter_append, h5, filt1, h3]; simp
  · have hm : idxOf p 0 s = -1 := by
      have key : ∀ (xs : List Group) (i : Nat), idxOf p i xs = -1 ∨ 0 ≤ idxOf p i xs := by
        intro xs
        induction xs with
        | nil => intro i; exact .inl rfl
        | cons y ys ih =>
          intro i
          unfold idxOf
          cases p y with
          | true => exact .inr (by rw [cond_true]; omega)
          | false => exact ih (i + 1)
      exact (key s 0).resolve_right h
    have hno := idx_neg p s 0
    rw [hm, decide_eq_true (by omega)] at hno
    have hno : s.any p = false := by cases hs : s.any p with | false => rfl | true => rw [hs] at hno; cases hno
    rw [hm, show ((-1 : Int) == (-1)) = true from rfl, cond_true]
    congr 1
    exact (List.filter_eq_self.2 fun y hy => by
      have := List.any_eq_false.1 hno y hy
      simpa using this).symm
def dropF (l : List Group) (id : Int) : List Group × Fault :=
  bif id == 4294967292 then ([], fine) else bif decide (id < 0) then ([], bad 1) else bif decide (id > 4294967040) then ([], bad 1) else
  bif decide (pl l id ≥ 0) && namedB l id then ([], bad 9) else (l.filter (fun g => !(g.1 == id)), fine)
theorem numbered_eq (id : Int) : group_numbered id = (!(decide (id < 0)) && !(decide (id > 4294967040))) := by
  unfold group_numbered
  by_cases h : id < 0
  · rw [decide_eq_true h, decide_eq_false (by omega)]; rfl
  · rw [decide_eq_false h, decide_eq_true (by omega)]
    by_cases h2 : id > 4294967040
    · rw [decide_eq_true h2, decide_eq_false (by omega)]; rfl
    · rw [decide_eq_false h2, decide_eq_true (by omega)]; rfl
theorem drop_eq (n : Nat) (l : List Group) (id : Int) (hl : l.length ≤ 50) (hb : ∀ g ∈ l, Bs g.2.2) (hn : 100 ≤ n) : group_drop n l id = some (dropF l id) := by
  have hd := delete n (fun x => some (group_drop_2 x id)) (fun g => g.1 == id) (fun _ => rfl) l hl hn
  unfold group_drop dropF
  simp only [numbered_eq, place n l id (by omega) (by omega), obind_some, named n l id hl hb hn, fresh n l (by omega) hb hn (by omega), hd]
  cases (id == 4294967292) with
  | true => rfl
  | false =>
    cases decide (id < 0) with
    | true => rfl
    | false =>
      cases decide (id > 4294967040) with
      | true => rfl
      | false =>
        cases decide (pl l id ≥ 0) with
        | false => rfl
        | true => cases namedB l id <;> rfl
theorem gone_loop (id : Int) : ∀ (xs : List Group) (i : Nat) (out : List Group), out.length + xs.length ≤ 1000 →
    loopL (R := List Group × Fault) (fun _ g (out : List Group) => bif !(g.1 == id) then (bif decide ((out.length + 1) * 40 ≤ 140737488355328) then .inr (out ++ [g]) else .inl none) else .inr out) (fun out => some (out, fine)) i xs out = some (out ++ xs.filter (fun g => !(g.1 == id)), fine)
  | [], _, out, _ => by unfold loopL; simp
  | x :: xs, i, out, h => by
    rw [List.length_cons] at h
    unfold loopL
    rw [List.filter_cons]
    cases hx : (x.1 == id) with
    | true => simp only [Bool.not_true, cond_false, Bool.false_eq_true, if_false]; exact gone_loop id xs (i + 1) out (by omega)
    | false =>
      rw [decide_eq_true (show (out.length + 1) * 40 ≤ 140737488355328 by omega)]
      simp only [Bool.not_false, cond_true, if_true]
      have := gone_loop id xs (i + 1) (out ++ [x]) (by rw [List.length_append]; simp; omega)
      rw [this, List.append_assoc]; rfl
theorem gone_eq (n : Nat) (l : List Group) (id : Int) (hl : l.length ≤ 50) (hb : ∀ g ∈ l, Bs g.2.2) (hn : 100 ≤ n) : ref24_gone n l id = some (dropF l id) := by
  have key : ref24_gone.l0 n l id fine n [] 0 = some (l.filter (fun g => !(g.1 == id)), fine) := by
    have h := gone_loop id l 0 [] (by simp; omega)
    rw [List.nil_append] at h
    rw [← h]
    refine loopL_start (fun m out i => ref24_gone.l0 n l id fine m out i) l (fun m out i x hx => ?_) (fun m out => ?_) (by omega) []
    · simp only [ref24_gone.l0, ref24_gone.s0, lt_of hx, decide_true, cond_true, inRange_of hx, getD_of hx, succ_of hx (by omega), bne, List.length_cons, List.length_nil, Nat.zero_add]
      cases (x.1 == id) with
      | true => rfl
      | false => cases decide ((List.length out + 1) * 40 ≤ 140737488355328) <;> rfl
    · simp only [ref24_gone.l0, ref24_gone.s0, Int.lt_irrefl, decide_false, cond_false]; rfl
  unfold fine at key
  unfold ref24_gone ref24_gone.s dropF
  simp only [ref_place n l id (by omega) (by omega), obind_some, ref_named n l id hl hb hn, key]
  cases (id == 4294967292) with
  | true => rfl
  | false =>
    cases decide (id < 0) with
    | true => rfl
    | false =>
      cases decide (id > 4294967040) with
      | true => rfl
      | false =>
        cases decide (pl l id ≥ 0) with
        | false => rfl
        | true => cases namedB l id <;> rfl

/-! ### which lists are the same -/
theorem zip_get {α β : Type} {a : List α} {b : List β} {i : Nat} {p : α × β} (h : (a.zip b)[i]? = some p) : a[i]? = some p.1 ∧ b[i]? = some p.2 := by
  rw [List.getElem?_zip_eq_some] at h; exact h
theorem all_loop {α : Type} (e : α → Bool) : ∀ (xs : List α) (i : Nat), loopL (R := Bool) (fun _ x (_ : Unit) => bif !e x then .inl (some false) else .inr ()) (fun _ => some true) i xs () = some (xs.all e)
  | [], _ => rfl
  | x :: xs, i => by
    unfold loopL
    rw [List.all_cons]
    cases h : e x with
    | false => rfl
    | true => simp only [Bool.not_true, cond_false, Bool.true_and]; exact all_loop e xs (i + 1)
theorem all_zip {α : Type} [DecidableEq α] : ∀ (a b : List α), a.length = b.length → ((a.zip b).all fun p => decide (p.1 = p.2)) = decide (a = b)
  | [], [], _ => by simp
  | x :: a, y :: b, h => by
    rw [List.zip_cons_cons, List.all_cons, all_zip a b (by simpa using h)]
    by_cases hxy : x = y <;> by_cases hab : a = b <;> simp [hxy, hab]
instance : DecidableEq Oxm := fun a b => inferInstanceAs (Decidable (a = b))
instance : DecidableEq Action := fun a b => inferInstanceAs (Decidable (a = b))
instance : DecidableEq Bucket := fun a b => inferInstanceAs (Decidable (a = b))
instance : DecidableEq Group := fun a b => inferInstanceAs (Decidable (a = b))
theorem act_same (a b : Action) : beqT TAction a b = decide (a = b) := by
  obtain ⟨a1, a2, a3, a4, a5, a6, a7, ⟨a8, a9⟩, a10, a11⟩ := a
  obtain ⟨b1, b2, b3, b4, b5, b6, b7, ⟨b8, b9⟩, b10, b11⟩ := b
  rw [Bool.eq_iff_iff, decide_eq_true_iff]
  simp only [beqT, Bool.and_eq_true, beq_iff_eq, Prod.mk.injEq]
theorem ref_act_same (a b : Action) : ref12_Same a b = decide (a = b) := by
  obtain ⟨a1, a2, a3, a4, a5, a6, a7, ⟨a8, a9⟩, a10, a11⟩ := a
  obtain ⟨b1, b2, b3, b4, b5, b6, b7, ⟨b8, b9⟩, b10, b11⟩ := b
  rw [Bool.eq_iff_iff, decide_eq_true_iff]
  unfold ref12_Same ref10_Same
  simp only [beqT, Prod.mk.injEq]
  constructor
  · intro h
    simp only [Bool.cond_eq_true_distrib, Bool.cond_false_right, Bool.and_eq_true, beq_iff_eq] at h
    simp_all
  · rintro ⟨rfl, rfl, rfl, rfl, rfl, rfl, rfl, ⟨rfl, rfl⟩, rfl, rfl⟩
    simp

theorem eqf_Action (n : Nat) (a b : List Action) (f : (Action × Action) → Option Bool) (hf : ∀ x ∈ a, ∀ y, f (x, y) = some (decide (x = y))) (hL : a.length ≤ 50) (hn : 100 ≤ n) : slices_EqualFunc_Action n a b f = some (decide (a = b)) := by
  show (bif (((List.length a : Nat) : Int) != ((List.length b : Nat) : Int)) then some false else slices_EqualFunc_Action.l0 n b f a ((List.length a : Nat) : Int) n 0) = _
  by_cases hlen : a.length = b.length
  · rw [show (((List.length a : Nat) : Int) != ((List.length b : Nat) : Int)) = false by rw [hlen]; simp, cond_false, ← all_zip a b hlen, ← all_loop]
    have hz : (a.zip b).length = a.length := by rw [List.length_zip]; omega
    refine loopL_start (σ := Unit) (fun m _ i => slices_EqualFunc_Action.l0 n b f a ((List.length a : Nat) : Int) m i) (a.zip b) (fun m _ i x hx => ?_) (fun m _ => ?_) (by omega) ()
    · obtain ⟨ha, hb⟩ := zip_get hx
      simp only [slices_EqualFunc_Action.l0, slices_EqualFunc_Action.s0, lt_of ha, decide_true, cond_true, inRange_of ha, inRange_of hb, getD_of ha, getD_of hb, succ_of ha (by omega), hf x.1 (List.mem_of_getElem? ha) x.2, obind_some]
      cases decide (x.1 = x.2) <;> rfl
    · rw [hz]
      simp only [slices_EqualFunc_Action.l0, slices_EqualFunc_Action.s0, Int.lt_irrefl, decide_false, cond_false]
  · rw [show (((List.length a : Nat) : Int) != ((List.length b : Nat) : Int)) = true from bne_iff_ne.2 (by omega), cond_true, decide_eq_false (fun h => hlen (by rw [h]))]

theorem eqf_Bucket (n : Nat) (a b : List Bucket) (f : (Bucket × Bucket) → Option Bool) (hf : ∀ x ∈ a, ∀ y, f (x, y) = some (decide (x = y))) (hL : a.length ≤ 50) (hn : 100 ≤ n) : slices_EqualFunc_Bucket n a b f = some (decide (a = b)) := by
  show (bif (((List.length a : Nat) : Int) != ((List.length b : Nat) : Int)) then some false else slices_EqualFunc_Bucket.l0 n b f a ((List.length a : Nat) : Int) n 0) = _
  by_cases hlen : a.length = b.length
  · rw [show (((List.length a : Nat) : Int) != ((List.length b : Nat) : Int)) = false by rw [hlen]; simp, cond_false, ← all_zip a b hlen, ← all_loop]
    have hz : (a.zip b).length = a.length := by rw [List.length_zip]; omega
    refine loopL_start (σ := Unit) (fun m _ i => slices_EqualFunc_Bucket.l0 n b f a ((List.length a : Nat) : Int) m i) (a.zip b) (fun m _ i x hx => ?_) (fun m _ => ?_) (by omega) ()
    · obtain ⟨ha, hb⟩ := zip_get hx
      simp only [slices_EqualFunc_Bucket.l0, slices_EqualFunc_Bucket.s0, lt_of ha, decide_true, cond_true, inRange_of ha, inRange_of hb, getD_of ha, getD_of hb, succ_of ha (by omega), hf x.1 (List.mem_of_getElem? ha) x.2, obind_some]
      cases decide (x.1 = x.2) <;> rfl
    · rw [hz]
      simp only [slices_EqualFunc_Bucket.l0, slices_EqualFunc_Bucket.s0, Int.lt_irrefl, decide_false, cond_false]
  · rw [show (((List.length a : Nat) : Int) != ((List.length b : Nat) : Int)) = true from bne_iff_ne.2 (by omega), cond_true, decide_eq_false (fun h => hlen (by rw [h]))]

theorem eqf_Group (n : Nat) (a b : List Group) (f : (Group × Group) → Option Bool) (hf : ∀ x ∈ a, ∀ y, f (x, y) = some (decide (x = y))) (hL : a.length ≤ 50) (hn : 100 ≤ n) : slices_EqualFunc_Group n a b f = some (decide (a = b)) := by
  show (bif (((List.length a : Nat) : Int) != ((List.length b : Nat) : Int)) then some false else slices_EqualFunc_Group.l0 n b f a ((List.length a : Nat) : Int) n 0) = _
  by_cases hlen : a.length = b.length
  · rw [show (((List.length a : Nat) : Int) != ((List.length b : Nat) : Int)) = false by rw [hlen]; simp, cond_false, ← all_zip a b hlen, ← all_loop]
    have hz : (a.zip b).length = a.length := by rw [List.length_zip]; omega
    refine loopL_start (σ := Unit) (fun m _ i => slices_EqualFunc_Group.l0 n b f a ((List.length a : Nat) : Int) m i) (a.zip b) (fun m _ i x hx => ?_) (fun m _ => ?_) (by omega) ()
    · obtain ⟨ha, hb⟩ := zip_get hx
      simp only [slices_EqualFunc_Group.l0, slices_EqualFunc_Group.s0, lt_of ha, decide_true, cond_true, inRange_of ha, inRange_of hb, getD_of ha, getD_of hb, succ_of ha (by omega), hf x.1 (List.mem_of_getElem? ha) x.2, obind_some]
      cases decide (x.1 = x.2) <;> rfl
    · rw [hz]
      simp only [slices_EqualFunc_Group.l0, slices_EqualFunc_Group.s0, Int.lt_irrefl, decide_false, cond_false]
  · rw [show (((List.length a : Nat) : Int) != ((List.length b : Nat) : Int)) = true from bne_iff_ne.2 (by omega), cond_true, decide_eq_false (fun h => hlen (by rw [h]))]

theorem refeq_Action (n : Nat) (a b : List Action) (hL : a.length ≤ 50) (hn : 100 ≤ n) : ref13_Same n a b = some (decide (a = b)) := by
  show (bif (((List.length a : Nat) : Int) != ((List.length b : Nat) : Int)) then some false else ref13_Same.l0 n a b n 0) = _
  by_cases hlen : a.length = b.length
  · rw [show (((List.length a : Nat) : Int) != ((List.length b : Nat) : Int)) = false by rw [hlen]; simp, cond_false, ← all_zip a b hlen, ← all_loop]
    have hz : (a.zip b).length = a.length := by rw [List.length_zip]; omega
    refine loopL_start (σ := Unit) (fun m _ i => ref13_Same.l0 n a b m i) (a.zip b) (fun m _ i x hx => ?_) (fun m _ => ?_) (by omega) ()
    · obtain ⟨ha, hb⟩ := zip_get hx
      simp only [ref13_Same.l0, ref13_Same.s0, lt_of ha, decide_true, cond_true, inRange_of ha, inRange_of hb, getD_of ha, getD_of hb, succ_of ha (by omega), ref_act_same, obind_some]
      cases decide (x.1 = x.2) <;> rfl
    · rw [hz]
      simp only [ref13_Same.l0, ref13_Same.s0, Int.lt_irrefl, decide_false, cond_false]
  · rw [show (((List.length a : Nat) : Int) != ((List.length b : Nat) : Int)) = true from bne_iff_ne.2 (by omega), cond_true, decide_eq_false (fun h => hlen (by rw [h]))]

theorem refeq_Bucket (n : Nat) (a b : List Bucket) (hb0 : ∀ x ∈ a, x.2.2.2.length ≤ 12) (hL : a.length ≤ 50) (hn : 100 ≤ n) : ref15_Same n a b = some (decide (a = b)) := by
  show (bif (((List.length a : Nat) : Int) != ((List.length b : Nat) : Int)) then some false else ref15_Same.l0 n a b n 0) = _
  by_cases hlen : a.length = b.length
  · rw [show (((List.length a : Nat) : Int) != ((List.length b : Nat) : Int)) = false by rw [hlen]; simp, cond_false, ← all_zip a b hlen, ← all_loop]
    have hz : (a.zip b).length = a.length := by rw [List.length_zip]; omega
    refine loopL_start (σ := Unit) (fun m _ i => ref15_Same.l0 n a b m i) (a.zip b) (fun m _ i x hx => ?_) (fun m _ => ?_) (by omega) ()
    · obtain ⟨ha, hb⟩ := zip_get hx
      have hin := refeq_Action n x.1.2.2.2 x.2.2.2.2 (by have := (hb0 x.1 (List.mem_of_getElem? ha)); omega) hn
      simp only [ref15_Same.l0, ref15_Same.s0, lt_of ha, decide_true, cond_true, inRange_of ha, inRange_of hb, getD_of ha, getD_of hb, succ_of ha (by omega), hin, obind_some, bne]
      obtain ⟨⟨x1, x2, x3, x4⟩, ⟨y1, y2, y3, y4⟩⟩ := x
      simp only [Prod.mk.injEq, Bool.decide_and]
      rw [show (x1 == y1) = decide (x1 = y1) from rfl, show (x2 == y2) = decide (x2 = y2) from rfl, show (x3 == y3) = decide (x3 = y3) from rfl]
      cases decide (x1 = y1) <;> cases decide (x2 = y2) <;> cases decide (x3 = y3) <;> cases decide (x4 = y4) <;> rfl
    · rw [hz]
      simp only [ref15_Same.l0, ref15_Same.s0, Int.lt_irrefl, decide_false, cond_false]
  · rw [show (((List.length a : Nat) : Int) != ((List.length b : Nat) : Int)) = true from bne_iff_ne.2 (by omega), cond_true, decide_eq_false (fun h => hlen (by rw [h]))]

theorem refeq_Group (n : Nat) (a b : List Group) (hb0 : ∀ g ∈ a, Bs g.2.2) (hL : a.length ≤ 50) (hn : 100 ≤ n) : ref24_Same n a b = some (decide (a = b)) := by
  show (bif (((List.length a : Nat) : Int) != ((List.length b : Nat) : Int)) then some false else ref24_Same.l0 n a b n 0) = _
  by_cases hlen : a.length = b.length
  · rw [show (((List.length a : Nat) : Int) != ((List.length b : Nat) : Int)) = false by rw [hlen]; simp, cond_false, ← all_zip a b hlen, ← all_loop]
    have hz : (a.zip b).length = a.length := by rw [List.length_zip]; omega
    refine loopL_start (σ := Unit) (fun m _ i => ref24_Same.l0 n a b m i) (a.zip b) (fun m _ i x hx => ?_) (fun m _ => ?_) (by omega) ()
    · obtain ⟨ha, hb⟩ := zip_get hx
      have hin := refeq_Bucket n x.1.2.2 x.2.2.2 (hb0 x.1 (List.mem_of_getElem? ha)).2 (by have := (hb0 x.1 (List.mem_of_getElem? ha)).1; omega) hn
      simp only [ref24_Same.l0, ref24_Same.s0, lt_of ha, decide_true, cond_true, inRange_of ha, inRange_of hb, getD_of ha, getD_of hb, succ_of ha (by omega), hin, obind_some, bne]
      obtain ⟨⟨x1, x2, x4⟩, ⟨y1, y2, y4⟩⟩ := x
      simp only [Prod.mk.injEq, Bool.decide_and]
      rw [show (x1 == y1) = decide (x1 = y1) from rfl, show (x2 == y2) = decide (x2 = y2) from rfl]
      cases decide (x1 = y1) <;> cases decide (x2 = y2) <;> cases decide (x4 = y4) <;> rfl
    · rw [hz]
      simp only [ref24_Same.l0, ref24_Same.s0, Int.lt_irrefl, decide_false, cond_false]
  · rw [show (((List.length a : Nat) : Int) != ((List.length b : Nat) : Int)) = true from bne_iff_ne.2 (by omega), cond_true, decide_eq_false (fun h => hlen (by rw [h]))]

theorem bsame (n : Nat) (a b : List Bucket) (ha : Bs a) (hn : 100 ≤ n) : bucket_Same n a b = some (decide (a = b)) := by
  unfold bucket_Same
  rw [eqf_Bucket n a b _ (fun x hx y => ?_) (by have := ha.1; omega) hn, obind_some]
  have hx12 := ha.2 x hx
  have hac : acts_Same n x.2.2.2 y.2.2.2 = some (decide (x.2.2.2 = y.2.2.2)) := by
    unfold acts_Same
    rw [eqf_Action n x.2.2.2 y.2.2.2 _ (fun u _ v => by show some (beqT TAction u v) = _; rw [act_same]) (by omega) hn, obind_some]
  show bucket_same_c n x y = _
  unfold bucket_same_c
  rw [hac, obind_some]
  obtain ⟨x1, x2, x3, x4⟩ := x
  obtain ⟨y1, y2, y3, y4⟩ := y
  simp only [Prod.mk.injEq, Bool.decide_and]
  rw [show (x1 == y1) = decide (x1 = y1) from rfl, show (x2 == y2) = decide (x2 = y2) from rfl, show (x3 == y3) = decide (x3 = y3) from rfl]
  cases decide (x1 = y1) <;> cases decide (x2 = y2) <;> cases decide (x3 = y3) <;> cases decide (x4 = y4) <;> rfl
theorem same (n : Nat) (a b : List Group) (ha : ∀ g ∈ a, Bs g.2.2) (hL : a.length ≤ 50) (hn : 100 ≤ n) : group_Same n a b = some (decide (a = b)) := by
  unfold group_Same
  rw [eqf_Group n a b _ (fun x hx y => ?_) hL hn, obind_some]
  show group_same_c n x y = _
  unfold group_same_c
  rw [bsame n _ _ (ha x hx) hn, obind_some]
  obtain ⟨x1, x2, x4⟩ := x
  obtain ⟨y1, y2, y4⟩ := y
  simp only [Prod.mk.injEq, Bool.decide_and]
  rw [show (x1 == y1) = decide (x1 = y1) from rfl, show (x2 == y2) = decide (x2 = y2) from rfl]
  cases decide (x1 = y1) <;> cases decide (x2 = y2) <;> cases decide (x4 = y4) <;> rfl
end P24
end Go.Fn
