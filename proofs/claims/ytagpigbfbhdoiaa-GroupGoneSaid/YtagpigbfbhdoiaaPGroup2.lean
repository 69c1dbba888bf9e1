/- Groups (chapter 24): what is wrong with a group; what is there; what is left; which lists are the same. -/
import Derived.Test.YtagpigbfbhdoiaaPGroup
set_option maxRecDepth 100000
namespace Go.Fn
open Go Go.Vi
namespace P24

/-! ### what is wrong -/
def bad (c : Int) : Fault := (true, 6, c)
def fine : Fault := (false, 0, 0)
def one (kind : Int) (x : Bucket) : Fault :=
  bif !(x.2.2.1 == 4294967295) then bad 6 else
  bif !(bif kind == 1 then x.1 == 1 else x.1 == 0) then (bif kind == 1 then bad 2 else bad 1) else
  bif (bif kind == 3 then !(decide (x.2.1 < 1)) && !(decide (x.2.1 > 6)) else x.2.1 == 4294967295) then fine else bad 13
theorem one_ref (kind : Int) (x : Bucket) : ref24_one kind x = one kind x := by
  unfold ref24_one one bad fine ref24_bad
  have h13 : (kind == 1) = true → (kind == 3) = false := fun h => by
    have := beq_iff_eq.1 h; subst this; rfl
  simp only [bne]
  cases (x.2.2.1 == 4294967295) <;> cases h1 : (kind == 1) <;> cases h3 : (kind == 3) <;> simp only [h1, h3, forall_const, Bool.true_eq_false, reduceCtorEq] at h13 <;> (try cases (x.1 == 1)) <;> (try cases (x.1 == 0)) <;> cases decide (x.2.1 < 1) <;> cases decide (x.2.1 > 6) <;> cases (x.2.1 == 4294967295) <;> rfl
def ckL (kind : Int) : List Bucket → Fault
  | [] => fine
  | x :: b => bif (one kind x).1 then one kind x else ckL kind b
def ck (kind : Int) (b : List Bucket) : Fault :=
  bif decide (kind < 0) then bad 10 else bif decide (kind > 3) then bad 10 else bif decide (((List.length b : Nat) : Int) > 4) then bad 4 else
  bif (kind == 2) then (bif (((List.length b : Nat) : Int) != 1) then bad 1 else ckL kind b) else ckL kind b
def ckStep (kind : Int) : Nat → Bucket → Unit → Option Fault ⊕ Unit := fun _ x _ => bif (one kind x).1 then .inl (some (one kind x)) else .inr ()
theorem ck_loop (kind : Int) : ∀ (xs : List Bucket) (i : Nat), loopL (ckStep kind) (fun _ => some fine) i xs () = some (ckL kind xs)
  | [], _ => rfl
  | x :: xs, i => by
    unfold loopL ckStep ckL
    cases (one kind x).1 with
    | true => rfl
    | false => exact ck_loop kind xs (i + 1)
theorem weighs_eq (kind : Int) : group_weighs kind = ((bif kind == 1 then 1 else 0), (bif kind == 1 then bad 2 else bad 1)) := by
  unfold group_weighs bad group_bad
  cases (kind == 1) <;> rfl
theorem watches_eq (kind port : Int) : group_watches kind port = (bif kind == 3 then !(decide (port < 1)) && !(decide (port > 6)) else port == 4294967295) := by
  unfold group_watches
  cases (kind == 3) with
  | false => rfl
  | true =>
    have e1 : decide (port ≥ 1) = !(decide (port < 1)) := by
      by_cases h : port < 1
      · rw [decide_eq_true h, decide_eq_false (by omega)]; rfl
      · rw [decide_eq_false h, decide_eq_true (by omega)]; rfl
    have e2 : decide (port ≤ 6) = !(decide (port > 6)) := by
      by_cases h : port > 6
      · rw [decide_eq_true h, decide_eq_false (by omega)]; rfl
      · rw [decide_eq_false h, decide_eq_true (by omega)]; rfl
    rw [e1, e2]
    cases decide (port < 1) <;> rfl
theorem check (n : Nat) (kind : Int) (b : List Bucket) (hn : 100 ≤ n) : group_Check n kind b = some (ck kind b) := by
  have hw : ∀ x : Bucket, (x.1 == (bif kind == 1 then 1 else 0)) = (bif kind == 1 then x.1 == 1 else x.1 == 0) := fun x => by cases (kind == 1) <;> rfl
  have key : b.length ≤ 4 → ∀ v4, group_Check.l0 n kind (bif kind == 1 then 1 else 0) b ((List.length b : Nat) : Int) v4 (bif kind == 1 then bad 2 else bad 1) n 0 = some (ckL kind b) := fun hL v4 => by
    rw [← ck_loop kind b 0]
    refine loopL_start (fun m (_ : Unit) i => group_Check.l0 n kind (bif kind == 1 then 1 else 0) b ((List.length b : Nat) : Int) v4 (bif kind == 1 then bad 2 else bad 1) m i) b (fun m s i x hx => ?_) (fun m s => ?_) (by omega) ()
    · simp only [group_Check.l0, group_Check.s0, lt_of hx, decide_true, cond_true, inRange_of hx, getD_of hx, succ_of hx (by omega), obind_some, watches_eq, bne, ckStep, one, hw x]
      cases (x.2.2.1 == 4294967295) with
      | false => rfl
      | true =>
        cases (bif kind == 1 then x.1 == 1 else x.1 == 0) with
        | false => cases (kind == 1) <;> rfl
        | true => cases (bif kind == 3 then !(decide (x.2.1 < 1)) && !(decide (x.2.1 > 6)) else x.2.1 == 4294967295) <;> rfl
    · simp only [group_Check.l0, group_Check.s0, Int.lt_irrefl, decide_false, cond_false]; rfl
  unfold group_Check group_Check.s ck
  simp only [weighs_eq]
  cases decide (kind < 0) with
  | true => rfl
  | false =>
    cases decide (kind > 3) with
    | true => rfl
    | false =>
      by_cases h4 : ((List.length b : Nat) : Int) > 4
      · rw [decide_eq_true h4]; rfl
      · rw [decide_eq_false h4]
        have key := key (by omega)
        cases (kind == 2) with
        | true =>
          cases (((List.length b : Nat) : Int) != 1) with
          | true => rfl
          | false => exact key _
        | false => exact key _
theorem ref_check (n : Nat) (kind : Int) (b : List Bucket) (hn : 100 ≤ n) : ref24_Check n kind b = some (ck kind b) := by
  have key : b.length ≤ 4 → ∀ v4, ref24_Check.l0 n kind b v4 n 0 = some (ckL kind b) := fun hL v4 => by
    rw [← ck_loop kind b 0]
    refine loopL_start (fun m (_ : Unit) i => ref24_Check.l0 n kind b v4 m i) b (fun m s i x hx => ?_) (fun m s => ?_) (by omega) ()
    · simp only [ref24_Check.l0, ref24_Check.s0, lt_of hx, decide_true, cond_true, inRange_of hx, getD_of hx, succ_of hx (by omega), obind_some, one_ref, ckStep]
      cases (one kind x).1 <;> rfl
    · simp only [ref24_Check.l0, ref24_Check.s0, Int.lt_irrefl, decide_false, cond_false]; rfl
  unfold ref24_Check ref24_Check.s ck
  cases decide (kind < 0) with
  | true => rfl
  | false =>
    cases decide (kind > 3) with
    | true => rfl
    | false =>
      by_cases h4 : ((List.length b : Nat) : Int) > 4
      · rw [decide_eq_true h4]; rfl
      · rw [decide_eq_false h4]
        have key := key (by omega)
        cases (kind == 2) with
        | true =>
          cases (((List.length b : Nat) : Int) != 1) with
          | true => rfl
          | false => exact key _
        | false => exact key _

/-! ### what is there -/
def thereB (l : List Group) (b : List Bucket) : Bool := !(bnames b).any fun id => decide (pl l id < 0)
theorem there (n : Nat) (l : List Group) (b : List Bucket) (hl : l.length ≤ 50) (hb : Bs b) (hn : 100 ≤ n) : group_there n l b = some (thereB l b) := by
  unfold group_there
  rw [names n b hb hn, obind_some, contains_int n _ _ (fun id => decide (pl l id < 0)) (fun x _ => ?_) (by have := hb.names; omega) (by have := hb.names; omega), obind_some]; rfl
  unfold group_there_1
  rw [place n l x (by omega) (by omega), obind_some]
theorem any_loop {α : Type} (p : α → Bool) (b : Bool) : ∀ (xs : List α) (i : Nat), loopL (R := Bool) (fun _ x (_ : Unit) => bif p x then .inl (some b) else .inr ()) (fun _ => some (!b)) i xs () = some (bif xs.any p then b else !b)
  | [], _ => rfl
  | x :: xs, i => by
    unfold loopL
    rw [List.any_cons]
    cases h : p x with
    | true => rfl
    | false => simp only [cond_false, Bool.false_or]; exact any_loop p b xs (i + 1)
theorem ref_there (n : Nat) (l : List Group) (b : List Bucket) (hl : l.length ≤ 50) (hb : Bs b) (hn : 100 ≤ n) : ref24_there n l b = some (thereB l b) := by
  have hbn := hb.names
  show (obind (ref24_Names n b) fun r => ref24_there.l0 n l r n 0) = _
  rw [ref_names n b hb hn, obind_some]
  have key := loopL_start (fun m (_ : Unit) i => ref24_there.l0 n l (bnames b) m i) (bnames b) (step := fun _ x (_ : Unit) => bif decide (pl l x < 0) then .inl (some false) else .inr ()) (fin := fun _ => some (!false)) (fun m s i x hx => ?_) (fun m s => ?_) (m := n) (by omega) ()
  · rw [key, any_loop]
    unfold thereB
    cases (bnames b).any fun id => decide (pl l id < 0) <;> rfl
  · simp only [ref24_there.l0, ref24_there.s0, lt_of hx, decide_true, cond_true, inRange_of hx, getD_of hx, succ_of hx (by omega), ref_place n l x (by omega) (by omega), obind_some]
    cases decide (pl l x < 0) <;> rfl
  · simp only [ref24_there.l0, ref24_there.s0, Int.lt_irrefl, decide_false, cond_false]; rfl

/-! ### which are named -/
theorem contains_ints (n : Nat) (s : List Int) (v : Int) (hL : s.length ≤ 1000) (hn : s.length < n) : slices_Contains_int n s v = some (s.any fun x => v == x) := by
  have key : slices_Index_int n s v = some (idxOf (fun x => v == x) 0 s) := by
    show slices_Index_int.l0 n s v s.length n 0 = _
    rw [← idx_loop]
    refine loopL_start (σ := Unit) (fun m _ i => slices_Index_int.l0 n s v s.length m i) s (fun m _ i x hx => ?_) (fun m _ => ?_) hn ()
    · simp only [slices_Index_int.l0, slices_Index_int.s0, lt_of hx, decide_true, cond_true, inRange_of hx, getD_of hx, succ_of hx (by omega), idxStep]
      cases (v == x) <;> rfl
    · simp only [slices_Index_int.l0, slices_Index_int.s0, Int.lt_irrefl, decide_false, cond_false]
  unfold slices_Contains_int
  rw [key, obind_some, idx_nonneg]
def goes (id : Int) (g : Group) : Bool := (bnames g.2.2).any fun x => id == x
def namedB (l : List Group) (id : Int) : Bool := l.any fun g => !(g.1 == id) && goes id g
theorem named (n : Nat) (l : List Group) (id : Int) (hl : l.length ≤ 50) (hb : ∀ g ∈ l, Bs g.2.2) (hn : 100 ≤ n) : slices_ContainsFunc_Group n l (fun x => group_drop_1 n x id) = some (namedB l id) := by
  refine contains_Group n l _ (fun g => !(g.1 == id) && goes id g) (fun x hx => ?_) (by omega) (by omega)
  have hbn := (hb x hx).names
  unfold group_drop_1 bne
  cases (x.1 == id) with
  | true => rfl
  | false =>
    show (obind (group_Names n x.2.2) fun r25 => obind (slices_Contains_int n r25 id) fun r27 => some r27) = _
    rw [names n _ (hb x hx) hn, obind_some, contains_ints n _ id (by omega) (by omega), obind_some]; rfl
theorem any_loopK {α : Type} (p : α → Bool) (b : Bool) (k : Option Bool) : ∀ (xs : List α) (i : Nat), loopL (R := Bool) (fun _ x (_ : Unit) => bif p x then .inl (some b) else .inr ()) (fun _ => k) i xs () = bif xs.any p then some b else k
  | [], _ => rfl
  | x :: xs, i => by
    unfold loopL
    rw [List.any_cons]
    cases h : p x with
    | true => rfl
    | false => simp only [cond_false, Bool.false_or]; exact any_loopK p b k xs (i + 1)
theorem ref_named_in (n : Nat) (l : List Group) (id : Int) (i : Nat) (g : Group) (hg : l[i]? = some g) (hi : l.length ≤ 50) (ns : List Int) (hns : ns.length ≤ 72) (hn : 100 ≤ n) (k0 : List Group → Int → Int → Option Bool) :
    ref24_named.l1 n l id (i : Int) ns k0 n 0 = bif (!(g.1 == id) && ns.any fun x => id == x) then some true else k0 l id ((i : Int) + 1) := by
  have key := loopL_start (fun m (_ : Unit) j => ref24_named.l1 n l id (i : Int) ns k0 m j) ns (step := fun _ x (_ : Unit) => bif (!(g.1 == id) && (id == x)) then .inl (some true) else .inr ()) (fin := fun _ => k0 l id ((i : Int) + 1)) (fun m s j x hx => ?_) (fun m s => ?_) (m := n) (by omega) ()
  · rw [key, any_loopK]
    cases (g.1 == id) with
    | true =>
      simp only [Bool.not_true, Bool.false_and]
      rw [show (ns.any fun _ => false) = false from List.any_eq_false.2 fun _ _ => by simp]
    | false => simp
  · have hc : (x == id) = (id == x) := by rw [Bool.eq_iff_iff, beq_iff_eq, beq_iff_eq]; exact eq_comm
    simp only [ref24_named.l1, ref24_named.s1, lt_of hx, decide_true, cond_true, inRange_of hx, getD_of hx, succ_of hx (by omega), inRange_of hg, getD_of hg, hc, bne]
    cases (id == x) <;> cases (g.1 == id) <;> rfl
  · simp only [ref24_named.l1, ref24_named.s1, Int.lt_irrefl, decide_false, cond_false, succ_of hg (by omega)]
theorem ref_named (n : Nat) (l : List Group) (id : Int) (hl : l.length ≤ 50) (hb : ∀ g ∈ l, Bs g.2.2) (hn : 100 ≤ n) : ref24_named n l id = some (namedB l id) := by
  show ref24_named.l0 n l id n 0 = _
  have key := loopL_start (fun m (_ : Unit) i => ref24_named.l0 n l id m i) l (step := fun _ g (_ : Unit) => bif (!(g.1 == id) && goes id g) then .inl (some true) else .inr ()) (fin := fun _ => some (!true)) (fun m s i x hx => ?_) (fun m s => ?_) (m := n) (by omega) ()
  · rw [key, any_loop]
    unfold namedB
    cases l.any fun g => !(g.1 == id) && goes id g <;> rfl
  · have hbx := hb x (List.mem_of_getElem? hx)
    simp only [ref24_named.l0, ref24_named.s0, lt_of hx, decide_true, cond_true, inRange_of hx, getD_of hx, ref_names n _ hbx hn, obind_some]
    rw [ref_named_in n l id i x hx hl _ hbx.names hn]
    unfold goes
    cases (!(x.1 == id) && (bnames x.2.2).any fun y => id == y) <;> rfl
  · simp only [ref24_named.l0, ref24_named.s0, Int.lt_irrefl, decide_false, cond_false]; rfl
end P24
end Go.Fn
