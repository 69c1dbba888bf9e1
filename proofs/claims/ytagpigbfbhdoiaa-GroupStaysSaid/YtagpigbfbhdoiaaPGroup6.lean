/- Groups (chapter 24): changes, and which may be. -/
import Derived.Test.YtagpigbfbhdoiaaPGroup5
set_option maxRecDepth 100000
namespace Go.Fn
open Go Go.Vi
namespace P24

def gOf (m : GroupMod) : Group := (m.2.2.1, m.2.1, m.2.2.2)
def outF (l : List Group) (m : GroupMod) : List Group := bif decide (pl l m.2.2.1 < 0) then l ++ [gOf m] else l.set (pl l m.2.2.1).toNat (gOf m)
noncomputable def putF (l : List Group) (m : GroupMod) : List Group × Fault :=
  bif (ck m.2.1 m.2.2.2).1 then ([], ck m.2.1 m.2.2.2) else
  bif !thereB (outF l m) m.2.2.2 then ([], (true, 2, 9)) else
  bif loopB (outF l m) then ([], bad 7) else (outF l m, fine)
noncomputable def doF (l : List Group) (m : GroupMod) : List Group × Fault :=
  bif (m.1 == 2) then dropF l m.2.2.1 else
  bif !(m.1 == 0) && !(m.1 == 1) then ([], bad 11) else
  bif decide (m.2.2.1 < 0) then ([], bad 1) else bif decide (m.2.2.1 > 4294967040) then ([], bad 1) else
  bif (m.1 == 1) then (bif decide (pl l m.2.2.1 < 0) then ([], bad 8) else putF l m)
  else (bif decide (pl l m.2.2.1 ≥ 0) then ([], bad 0) else bif decide (((List.length l : Nat) : Int) ≥ 8) then ([], bad 3) else putF l m)
theorem out_len (l : List Group) (m : GroupMod) : (outF l m).length ≤ l.length + 1 := by
  unfold outF
  cases decide (pl l m.2.2.1 < 0) with
  | true => rw [cond_true, List.length_append]; simp
  | false => rw [cond_false, List.length_set]; omega
theorem out_bs (l : List Group) (m : GroupMod) (hb : ∀ g ∈ l, Bs g.2.2) (hm : Bs m.2.2.2) : ∀ g ∈ outF l m, Bs g.2.2 := by
  intro g hg
  unfold outF at hg
  cases h : decide (pl l m.2.2.1 < 0) with
  | true =>
    rw [h, cond_true] at hg
    rcases List.mem_append.1 hg with hg | hg
    · exact hb g hg
    · rw [List.mem_singleton.1 hg]; exact hm
  | false =>
    rw [h, cond_false] at hg
    rcases List.mem_or_eq_of_mem_set hg with hg | rfl
    · exact hb g hg
    · exact hm
theorem put_eq (n : Nat) (l : List Group) (m : GroupMod) (hl : l.length ≤ 40) (hb : ∀ g ∈ l, Bs g.2.2) (hm : Bs m.2.2.2) (hn : 100 ≤ n) : group_put n l (pl l m.2.2.1) m = some (putF l m) := by
  have hL := out_len l m
  have hB := out_bs l m hb hm
  have ht := there n (outF l m) m.2.2.2 (by omega) hm hn
  have hlp := loop_eq n (outF l m) (by omega) hB hn
  unfold group_put putF
  rw [check n _ _ hn, obind_some]
  cases (ck m.2.1 m.2.2.2).1 with
  | true => rfl
  | false =>
    rw [cond_false, cond_false, fresh n l (by omega) hb hn (by omega), obind_some, copies n _ hm hn, obind_some]
    by_cases h0 : pl l m.2.2.1 < 0
    · have e : outF l m = l ++ [gOf m] := by unfold outF; rw [decide_eq_true h0]; rfl
      rw [e] at ht hlp
      rw [decide_eq_true h0, cond_true, decide_eq_true (show (l.length + [(m.2.2.1, m.2.1, m.2.2.2)].length) * 40 ≤ 140737488355328 by rw [List.length_cons, List.length_nil]; omega), cond_true, e]
      show (obind (group_there n (l ++ [gOf m]) m.2.2.2) fun r72 => bif !r72 then some (([] : (List Group)), (true, 2, 9)) else obind (group_Loop n (l ++ [gOf m])) fun r73 => bif r73 then obind (some (group_bad 7)) fun r74 => some (([] : (List Group)), r74) else some (l ++ [gOf m], (false, 0, 0))) = _
      rw [ht, obind_some, hlp, obind_some]
      cases thereB (l ++ [gOf m]) m.2.2.2 <;> cases loopB (l ++ [gOf m]) <;> rfl
    · obtain ⟨j, hj, hjl⟩ := pl_nat h0
      have e : outF l m = l.set j (gOf m) := by unfold outF; rw [decide_eq_false h0, hj]; rfl
      rw [e] at ht hlp
      rw [decide_eq_false h0, cond_false, hj, show inRange (j : Int) l.length = true from inRange_true (by omega) (by omega), cond_true, e]
      show (obind (group_there n (l.set j (gOf m)) m.2.2.2) fun r72 => bif !r72 then some (([] : (List Group)), (true, 2, 9)) else obind (group_Loop n (l.set j (gOf m))) fun r73 => bif r73 then obind (some (group_bad 7)) fun r74 => some (([] : (List Group)), r74) else some (l.set j (gOf m), (false, 0, 0))) = _
      rw [ht, obind_some, hlp, obind_some]
      cases thereB (l.set j (gOf m)) m.2.2.2 <;> cases loopB (l.set j (gOf m)) <;> rfl
noncomputable def refPut (n : Nat) (l : List Group) (r0 : Int) (m1 : GroupMod) : Option (List Group × Fault) :=
  obind (ref24_Check n m1.2.1 m1.2.2.2) fun (r365 : Fault) =>
  bif r365.1 then
    some (([] : (List Group)), r365)
  else
  bif decide ((List.length ([] : (List Group)) + List.length l) * 40 ≤ 140737488355328) then
  bif decide (r0 ≥ 0) then
    bif inRange r0 (List.length l) then
    let y0 : (List Group) := List.set l (Int.toNat r0) (m1.2.2.1, m1.2.1, m1.2.2.2)
    obind (ref24_there n y0 m1.2.2.2) fun (r368 : Bool) =>
    bif !r368 then
      some (([] : (List Group)), (true, 2, 9))
    else
    obind (ref24_Loop n y0) fun (r372 : Bool) =>
    bif r372 then
      obind (some (ref24_bad 7)) fun (r373 : Fault) =>
      some (([] : (List Group)), r373)
    else
    some (y0, (false, 0, 0))
    else none
  else
  bif decide ((List.length l + List.length ([(m1.2.2.1, m1.2.1, m1.2.2.2)] : (List Group))) * 40 ≤ 140737488355328) then
  let y1 : (List Group) := (l ++ ([(m1.2.2.1, m1.2.1, m1.2.2.2)] : (List Group)))
  obind (ref24_there n y1 m1.2.2.2) fun (r374 : Bool) =>
  bif !r374 then
    some (([] : (List Group)), (true, 2, 9))
  else
  obind (ref24_Loop n y1) fun (r375 : Bool) =>
  bif r375 then
    obind (some (ref24_bad 7)) fun (r376 : Fault) =>
    some (([] : (List Group)), r376)
  else
  some (y1, (false, 0, 0))
  else none
  else none
theorem ref_put_eq (n : Nat) (l : List Group) (m : GroupMod) (hl : l.length ≤ 40) (hb : ∀ g ∈ l, Bs g.2.2) (hm : Bs m.2.2.2) (hn : 100 ≤ n) : refPut n l (pl l m.2.2.1) m = some (putF l m) := by
  have hL := out_len l m
  have hB := out_bs l m hb hm
  have ht := ref_there n (outF l m) m.2.2.2 (by omega) hm hn
  have hlp := ref_loop_eq n (outF l m) (by omega) hB hn
  unfold refPut putF
  rw [ref_check n _ _ hn, obind_some]
  cases (ck m.2.1 m.2.2.2).1 with
  | true => rfl
  | false =>
    rw [cond_false, cond_false, decide_eq_true (show (([] : List Group).length + l.length) * 40 ≤ 140737488355328 by rw [List.length_nil]; omega), cond_true]
    by_cases h0 : pl l m.2.2.1 < 0
    · have e : outF l m = l ++ [gOf m] := by unfold outF; rw [decide_eq_true h0]; rfl
      rw [e] at ht hlp
      rw [decide_eq_false (show ¬ pl l m.2.2.1 ≥ 0 by omega), cond_false, decide_eq_true (show (l.length + [(m.2.2.1, m.2.1, m.2.2.2)].length) * 40 ≤ 140737488355328 by rw [List.length_cons, List.length_nil]; omega), cond_true, e]
      show (obind (ref24_there n (l ++ [gOf m]) m.2.2.2) fun r72 => bif !r72 then some (([] : (List Group)), (true, 2, 9)) else obind (ref24_Loop n (l ++ [gOf m])) fun r73 => bif r73 then obind (some (ref24_bad 7)) fun r74 => some (([] : (List Group)), r74) else some (l ++ [gOf m], (false, 0, 0))) = _
      rw [ht, obind_some, hlp, obind_some]
      cases thereB (l ++ [gOf m]) m.2.2.2 <;> cases loopB (l ++ [gOf m]) <;> rfl
    · obtain ⟨j, hj, hjl⟩ := pl_nat h0
      have e : outF l m = l.set j (gOf m) := by unfold outF; rw [decide_eq_false h0, hj]; rfl
      rw [e] at ht hlp
      rw [decide_eq_true (show pl l m.2.2.1 ≥ 0 by omega), cond_true, hj, show inRange (j : Int) l.length = true from inRange_true (by omega) (by omega), cond_true, e]
      show (obind (ref24_there n (l.set j (gOf m)) m.2.2.2) fun r72 => bif !r72 then some (([] : (List Group)), (true, 2, 9)) else obind (ref24_Loop n (l.set j (gOf m))) fun r73 => bif r73 then obind (some (ref24_bad 7)) fun r74 => some (([] : (List Group)), r74) else some (l.set j (gOf m), (false, 0, 0))) = _
      rw [ht, obind_some, hlp, obind_some]
      cases thereB (l.set j (gOf m)) m.2.2.2 <;> cases loopB (l.set j (gOf m)) <;> rfl
theorem do_eq (n : Nat) (l : List Group) (m : GroupMod) (hl : l.length ≤ 40) (hb : ∀ g ∈ l, Bs g.2.2) (hm : Bs m.2.2.2) (hn : 100 ≤ n) : group_Do n l m = some (doF l m) := by
  have hp := put_eq n l m hl hb hm hn
  have hd := drop_eq n l m.2.2.1 (by omega) hb hn
  have hpl := place n l m.2.2.1 (by omega) (by omega)
  obtain ⟨c, kind, id, b⟩ := m
  simp only at hp hd hpl hm
  unfold group_Do doF
  simp only [hpl, obind_some, hd, numbered_eq]
  have hbad : ∀ c, group_bad c = bad c := fun _ => rfl
  simp only [hbad]
  by_cases h2 : c = 2
  · subst h2; rfl
  · by_cases h0 : c = 0
    · subst h0
      have e0 : decide ((0 : Int) < 0) = false := rfl
      have e1 : decide ((0 : Int) > 2) = false := rfl
      have e2 : ((0 : Int) == 2) = false := rfl
      have e3 : ((0 : Int) == 1) = false := rfl
      have e4 : ((0 : Int) == 0) = true := rfl
      simp only [e0, e1, e2, e3, e4, hp, obind_some]
      cases decide (id < 0) <;> cases decide (id > 4294967040) <;> cases decide (pl l id ≥ 0) <;> cases decide (((List.length l : Nat) : Int) ≥ 8) <;> rfl
    · by_cases h1 : c = 1
      · subst h1
        have e0 : decide ((1 : Int) < 0) = false := rfl
        have e1 : decide ((1 : Int) > 2) = false := rfl
        have e2 : ((1 : Int) == 2) = false := rfl
        have e3 : ((1 : Int) == 1) = true := rfl
        have e4 : ((1 : Int) == 0) = false := rfl
        simp only [e0, e1, e2, e3, e4, hp, obind_some]
        cases decide (id < 0) <;> cases decide (id > 4294967040) <;> cases decide (pl l id < 0) <;> rfl
      · have e2 : (c == 2) = false := beq_eq_false_iff_ne.2 h2
        have e3 : (c == 1) = false := beq_eq_false_iff_ne.2 h1
        have e4 : (c == 0) = false := beq_eq_false_iff_ne.2 h0
        by_cases hc : c < 0
        · rw [decide_eq_true hc, e2, e3, e4]; rfl
        · rw [decide_eq_false hc, decide_eq_true (show c > 2 by omega), e2, e3, e4]; rfl
theorem ref_do_eq (n : Nat) (l : List Group) (m : GroupMod) (hl : l.length ≤ 40) (hb : ∀ g ∈ l, Bs g.2.2) (hm : Bs m.2.2.2) (hn : 100 ≤ n) : ref24_Do n l m = some (doF l m) := by
  have hp := ref_put_eq n l m hl hb hm hn
  have hd := gone_eq n l m.2.2.1 (by omega) hb hn
  have hpl := ref_place n l m.2.2.1 (by omega) (by omega)
  obtain ⟨c, kind, id, b⟩ := m
  simp only at hp hd hpl hm
  have hz : doF l (c, kind, id, b) = bif (c == 2) then dropF l id else
      bif !(c == 0) && !(c == 1) then ([], bad 11) else
      bif decide (id < 0) then ([], bad 1) else bif decide (id > 4294967040) then ([], bad 1) else
      bif (c == 1) then (bif decide (pl l id < 0) then ([], bad 8) else putF l (c, kind, id, b))
      else (bif decide (pl l id ≥ 0) then ([], bad 0) else bif decide (((List.length l : Nat) : Int) ≥ 8) then ([], bad 3) else putF l (c, kind, id, b)) := rfl
  rw [hz]
  unfold ref24_Do
  simp only [hpl, obind_some, hd]
  by_cases h2 : c = 2
  · subst h2; rfl
  · by_cases h0 : c = 0
    · subst h0
      cases h3 : decide (id < 0) with
      | true => rfl
      | false =>
        cases h4 : decide (id > 4294967040) with
        | true => rfl
        | false =>
          cases h5 : decide (pl l id ≥ 0) with
          | true => rfl
          | false =>
            cases h6 : decide (((List.length l : Nat) : Int) ≥ 8) with
            | true => rfl
            | false =>
              refine Eq.trans ?_ hp
              unfold refPut
              rw [h5]
              rfl
    · by_cases h1 : c = 1
      · subst h1
        cases h3 : decide (id < 0) with
        | true => rfl
        | false =>
          cases h4 : decide (id > 4294967040) with
          | true => rfl
          | false =>
            cases h5 : decide (pl l id < 0) with
            | true => rfl
            | false =>
              refine Eq.trans ?_ hp
              rfl
      · have e2 : (c == 2) = false := beq_eq_false_iff_ne.2 h2
        have e3 : (c == 1) = false := beq_eq_false_iff_ne.2 h1
        have e4 : (c == 0) = false := beq_eq_false_iff_ne.2 h0
        simp only [e2, bne, e3, e4]; rfl

/-! ### which may be -/
noncomputable def okAt (l : List Group) (i : Nat) (g : Group) : Bool :=
  (!(decide (g.1 < 0)) && !(decide (g.1 > 4294967040))) && (pl l g.1 == (i : Int)) && (!(ck g.2.1 g.2.2).1 && thereB l g.2.2)
def allI {α : Type} (p : Nat → α → Bool) : Nat → List α → Bool
  | _, [] => true
  | i, x :: xs => p i x && allI p (i + 1) xs
theorem allI_iff {α : Type} (p : Nat → α → Bool) : ∀ (xs : List α) (i : Nat), allI p i xs = true ↔ ∀ (j : Nat) (x : α), xs[j]? = some x → p (i + j) x = true
  | [], _ => ⟨fun _ j x h => by simp at h, fun _ => rfl⟩
  | x :: xs, i => by
    unfold allI
    rw [Bool.and_eq_true, allI_iff p xs (i + 1)]
    constructor
    · rintro ⟨h1, h2⟩ j y hy
      cases j with
      | zero =>
        have : x = y := by simpa using hy
        subst this; exact h1
      | succ j => have := h2 j y hy; rw [← this]; congr 1; omega
    · intro h
      exact ⟨h 0 x rfl, fun j y hy => by have := h (j + 1) y hy; rw [← this]; congr 1; omega⟩
theorem allI_loop {α R : Type} (p : Nat → α → Bool) (r k : Option R) : ∀ (xs : List α) (i : Nat), loopL (R := R) (fun i x (_ : Unit) => bif p i x then .inr () else .inl r) (fun _ => k) i xs () = bif allI p i xs then k else r
  | [], _ => rfl
  | x :: xs, i => by
    unfold loopL allI
    cases p i x with
    | false => rfl
    | true => rw [Bool.true_and]; exact allI_loop p r k xs (i + 1)
noncomputable def rightB (l : List Group) : Bool := decide (l.length ≤ 8) && !loopB l && allI (okAt l) 0 l
theorem right_eq (n : Nat) (l : List Group) (hl : l.length ≤ 50) (hb : ∀ g ∈ l, Bs g.2.2) (hn : 100 ≤ n) : group_Right n l = some (rightB l) := by
  have key : group_Right.l0 n l l ((List.length l : Nat) : Int) n 0 = bif allI (okAt l) 0 l then some true else some false := by
    rw [← allI_loop]
    refine loopL_start (σ := Unit) (fun m _ i => group_Right.l0 n l l ((List.length l : Nat) : Int) m i) l (fun m _ i x hx => ?_) (fun m _ => ?_) (by omega) ()
    · have hbx := hb x (List.mem_of_getElem? hx)
      simp only [group_Right.l0, group_Right.s0, lt_of hx, decide_true, cond_true, inRange_of hx, getD_of hx, succ_of hx (by omega), numbered_eq, obind_some, place n l x.1 (by omega) (by omega), check n _ _ hn, there n l x.2.2 hl hbx hn, okAt, bne]
      cases (!(decide (x.1 < 0)) && !(decide (x.1 > 4294967040))) <;> cases (pl l x.1 == (i : Int)) <;> cases (ck x.2.1 x.2.2).1 <;> cases thereB l x.2.2 <;> rfl
    · simp only [group_Right.l0, group_Right.s0, Int.lt_irrefl, decide_false, cond_false]
  show (bif ((decide (((List.length l : Nat) : Int) > 8)) == false) then obind (group_Loop n l) fun r96 => bif r96 then some false else group_Right.l0 n l l ((List.length l : Nat) : Int) n 0 else some false) = _
  rw [loop_eq n l hl hb hn, obind_some, key]
  unfold rightB
  by_cases h8 : l.length ≤ 8
  · rw [decide_eq_true h8, decide_eq_false (show ¬ ((List.length l : Nat) : Int) > 8 by omega)]
    cases loopB l <;> cases allI (okAt l) 0 l <;> rfl
  · rw [decide_eq_false h8, decide_eq_true (show ((List.length l : Nat) : Int) > 8 by omega)]; rfl
theorem ref_right_eq (n : Nat) (l : List Group) (hl : l.length ≤ 50) (hb : ∀ g ∈ l, Bs g.2.2) (hn : 100 ≤ n) : ref24_Right n l = some (rightB l) := by
  have key : ref24_Right.l0 n l n 0 = bif allI (okAt l) 0 l then (bif decide (l.length ≤ 8) then some (!loopB l) else some false) else some false := by
    rw [← allI_loop]
    refine loopL_start (σ := Unit) (fun m _ i => ref24_Right.l0 n l m i) l (fun m _ i x hx => ?_) (fun m _ => ?_) (by omega) ()
    · have hbx := hb x (List.mem_of_getElem? hx)
      simp only [ref24_Right.l0, ref24_Right.s0, lt_of hx, decide_true, cond_true, inRange_of hx, getD_of hx, succ_of hx (by omega), obind_some, ref_place n l x.1 (by omega) (by omega), ref_check n _ _ hn, ref_there n l x.2.2 hl hbx hn, okAt, bne]
      cases decide (x.1 < 0) <;> cases decide (x.1 > 4294967040) <;> cases (pl l x.1 == (i : Int)) <;> cases (ck x.2.1 x.2.2).1 <;> cases thereB l x.2.2 <;> rfl
    · simp only [ref24_Right.l0, ref24_Right.s0, Int.lt_irrefl, decide_false, cond_false]
      rw [ref_loop_eq n l hl hb hn, obind_some]
      by_cases h8 : l.length ≤ 8
      · rw [decide_eq_true h8, decide_eq_true (show ((List.length l : Nat) : Int) ≤ 8 by omega)]; rfl
      · rw [decide_eq_false h8, decide_eq_false (show ¬ ((List.length l : Nat) : Int) ≤ 8 by omega)]; rfl
  show ref24_Right.l0 n l n 0 = _
  rw [key]
  unfold rightB
  cases decide (l.length ≤ 8) <;> cases loopB l <;> cases allI (okAt l) 0 l <;> rfl

/-! ### which group an ID is -/
def findF (l : List Group) (id : Int) : Group × Bool := bif decide (pl l id < 0) then ((0, 0, []), false) else (List.getD l (pl l id).toNat (0, 0, []), true)
theorem find_eq (n : Nat) (l : List Group) (id : Int) (hl : l.length ≤ 50) (hb : ∀ g ∈ l, Bs g.2.2) (hn : 100 ≤ n) : group_Find n l id = some (findF l id) := by
  unfold group_Find findF
  rw [place n l id (by omega) (by omega), obind_some]
  by_cases h0 : pl l id < 0
  · rw [decide_eq_true h0]; rfl
  · obtain ⟨j, hj, hjl⟩ := pl_nat h0
    have hg : l[j]? = some l[j] := List.getElem?_eq_getElem hjl
    have hw : IntKind.wrap .i64 ((j : Int) + 1) = ((j + 1 : Nat) : Int) := by rw [w64 (by omega) (by omega)]; omega
    have hsub : sub l j (j + 1) = [l[j]] := by
      unfold sub
      rw [List.take_add_one, hg]
      rw [List.drop_append_of_le_length (by rw [List.length_take]; omega), List.drop_eq_nil_of_le (by rw [List.length_take]; omega)]; rfl
    rw [decide_eq_false h0, hj, hw]
    rw [decide_eq_true (show (0 : Int) ≤ (j : Int) by omega), decide_eq_true (show (j : Int) ≤ ((j + 1 : Nat) : Int) by omega), decide_eq_true (show ((j + 1 : Nat) : Int) ≤ ((List.length l : Nat) : Int) by omega)]
    simp only [Bool.and_self, cond_true, cond_false, Int.toNat_natCast]
    rw [hsub, fresh n [l[j]] (by simp) (fun g hg => by rw [List.mem_singleton.1 hg]; exact hb _ (List.getElem_mem hjl)) hn (by rw [List.length_cons, List.length_nil]; omega), obind_some]
    have hgd : List.getD l j (0, 0, ([] : List Bucket)) = l[j] := by rw [List.getD_eq_getElem?_getD, hg]; rfl
    rw [hgd]; rfl
theorem ref_find_eq (n : Nat) (l : List Group) (id : Int) (hl : l.length ≤ 50) (hn : 100 ≤ n) : ref24_Find n l id = some (findF l id) := by
  unfold ref24_Find findF
  rw [ref_place n l id (by omega) (by omega), obind_some]
  by_cases h0 : pl l id < 0
  · rw [decide_eq_true h0, decide_eq_false (show ¬ pl l id ≥ 0 by omega)]; rfl
  · obtain ⟨j, hj, hjl⟩ := pl_nat h0
    rw [decide_eq_false h0, decide_eq_true (show pl l id ≥ 0 by omega), hj, show inRange (j : Int) l.length = true from inRange_true (by omega) (by omega)]; rfl
end P24
end Go.Fn
