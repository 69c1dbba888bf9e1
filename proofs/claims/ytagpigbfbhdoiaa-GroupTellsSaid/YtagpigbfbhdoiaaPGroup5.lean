/- Groups (chapter 24): which groups a group comes to, by a list of those to go on from (the document's). -/
import Derived.Test.YtagpigbfbhdoiaaPGroup4
set_option maxRecDepth 100000
namespace Go.Fn
open Go Go.Vi
namespace P24

def nF : List Bool → Nat
  | [] => 0
  | b :: l => (bif b then 0 else 1) + nF l
theorem nF_set : ∀ (is : List Bool) (j : Nat), is[j]? = some false → nF (is.set j true) + 1 = nF is
  | b :: l, 0, h => by
    have : b = false := by simpa using h
    subst this
    show (0 + nF l) + 1 = 1 + nF l
    omega
  | b :: l, j + 1, h => by
    have := nF_set l j (by simpa using h)
    show ((bif b then 0 else 1) + nF (l.set j true)) + 1 = (bif b then 0 else 1) + nF l
    omega
  | [], _, h => by simp at h
theorem nF_rep : ∀ n : Nat, nF (List.replicate n false) = n
  | 0 => rfl
  | n + 1 => by
    rw [List.replicate_succ]
    show 1 + nF (List.replicate n false) = n + 1
    rw [nF_rep n]; omega
/-- One name: the place it stands at is gone on from, if it was not come to. -/
def bst (l : List Group) (s : List Int × List Bool) (id : Int) : List Int × List Bool :=
  bif decide (pl l id ≥ 0) then (bif s.2.getD (pl l id).toNat false then s else (s.1 ++ [pl l id], s.2.set (pl l id).toNat true)) else s
structure BPost (l : List Group) (ids : List Int) (s s' : List Int × List Bool) : Prop where
  len : s'.2.length = l.length
  sum : s'.1.length + nF s'.2 = s.1.length + nF s.2
  sub : ∀ a ∈ s.1, a ∈ s'.1
  mono : ∀ j : Nat, s.2[j]? = some true → s'.2[j]? = some true
  all : ∀ id ∈ ids, ∀ k : Nat, pl l id = (k : Int) → s'.2[k]? = some true
  new : ∀ j : Nat, s'.2[j]? = some true → s.2[j]? = some true ∨ ((j : Int) ∈ s'.1 ∧ ∃ id ∈ ids, pl l id = (j : Int))
  td : ∀ a ∈ s'.1, a ∈ s.1 ∨ ∃ j : Nat, a = (j : Int) ∧ j < l.length ∧ s'.2[j]? = some true
theorem bst_spec (l : List Group) : ∀ (ids : List Int) (s : List Int × List Bool), s.2.length = l.length → BPost l ids s (ids.foldl (bst l) s)
  | [], s, h => ⟨h, rfl, fun _ h => h, fun _ h => h, fun _ h => (by cases h), fun _ h => .inl h, fun _ h => .inl h⟩
  | id :: ids, s, h => by
    have key : BPost l [id] s (bst l s id) := by
      by_cases h0 : pl l id < 0
      · have e : bst l s id = s := by unfold bst; rw [decide_eq_false (by omega)]; rfl
        rw [e]
        exact ⟨h, rfl, fun _ h => h, fun _ h => h, fun i hi k hk => by
          have := List.mem_singleton.1 hi
          subst this; omega, fun _ h => .inl h, fun _ h => .inl h⟩
      · obtain ⟨j, hj, hlt⟩ := pl_nat h0
        have hs : s.2[j]? = some s.2[j] := List.getElem?_eq_getElem (by omega)
        have hgd : s.2.getD j false = s.2[j] := by rw [List.getD_eq_getElem?_getD, hs]; rfl
        cases hv : s.2[j] with
        | true =>
          have e : bst l s id = s := by
            unfold bst
            rw [hj, decide_eq_true (by omega), cond_true, Int.toNat_natCast, hgd, hv]; rfl
          rw [e]
          refine ⟨h, rfl, fun _ h => h, fun _ h => h, fun i hi k hk => ?_, fun _ h => .inl h, fun _ h => .inl h⟩
          have := List.mem_singleton.1 hi
          subst this
          have : k = j := by omega
          subst this
          rw [hs, hv]
        | false =>
          have e : bst l s id = (s.1 ++ [(j : Int)], s.2.set j true) := by
            unfold bst
            rw [hj, decide_eq_true (by omega), cond_true, Int.toNat_natCast, hgd, hv]; rfl
          rw [hv] at hs
          have hset : (s.2.set j true)[j]? = some true := List.getElem?_set_self (by omega)
          rw [e]
          refine ⟨by rw [List.length_set]; exact h, ?_, fun a ha => List.mem_append_left _ ha, fun i hi => ?_, fun i hi k hk => ?_, fun i hi => ?_, fun a ha => ?_⟩
          · have := nF_set s.2 j hs
            simp only [List.length_append, List.length_cons, List.length_nil]
            omega
          · by_cases hij : i = j
            · subst hij; exact hset
            · show (s.2.set j true)[i]? = _
              rw [List.getElem?_set_ne (Ne.symm hij)]; exact hi
          · have := List.mem_singleton.1 hi
            subst this
            have : k = j := by omega
            subst this
            exact hset
          · by_cases hij : i = j
            · subst hij
              exact .inr ⟨List.mem_append_right _ (List.mem_singleton.2 rfl), id, List.mem_singleton.2 rfl, hj⟩
            · have hi : (s.2.set j true)[i]? = some true := hi
              rw [List.getElem?_set_ne (Ne.symm hij)] at hi
              exact .inl hi
          · rcases List.mem_append.1 ha with ha | ha
            · exact .inl ha
            · exact .inr ⟨j, List.mem_singleton.1 ha, hlt, hset⟩
    have ih := bst_spec l ids (bst l s id) key.len
    rw [List.foldl_cons]
    refine ⟨ih.len, ih.sum.trans key.sum, fun a ha => ih.sub a (key.sub a ha), fun j hj => ih.mono j (key.mono j hj), fun i hi k hk => ?_, fun j hj => ?_, fun a ha => ?_⟩
    · rcases List.mem_cons.1 hi with rfl | hi
      · exact ih.mono k (key.all _ (List.mem_singleton.2 rfl) k hk)
      · exact ih.all i hi k hk
    · rcases ih.new j hj with h | ⟨h1, i, hi, h2⟩
      · rcases key.new j h with h | ⟨h1, i, hi, h2⟩
        · exact .inl h
        · have := List.mem_singleton.1 hi
          subst this
          exact .inr ⟨ih.sub _ h1, i, List.mem_cons_self, h2⟩
      · exact .inr ⟨h1, i, List.mem_cons_of_mem _ hi, h2⟩
    · rcases ih.td a ha with h | h
      · rcases key.td a h with h | ⟨j, h1, h2, h3⟩
        · exact .inl h
        · exact .inr ⟨j, h1, h2, ih.mono j h3⟩
      · exact .inr h
theorem bloop (l : List Group) (k0 : List Int × List Bool → Option (List Bool)) : ∀ (xs : List Int) (i : Nat) (s : List Int × List Bool), s.2.length = l.length → s.1.length + nF s.2 ≤ 1000 →
    loopL (R := List Bool) (fun _ id s => bif decide (pl l id ≥ 0) then (bif s.2.getD (pl l id).toNat false then .inr s else (bif decide ((s.1.length + 1) * 8 ≤ 140737488355328) then .inr (s.1 ++ [pl l id], s.2.set (pl l id).toNat true) else .inl none)) else .inr s) k0 i xs s = k0 (xs.foldl (bst l) s)
  | [], _, _, _, _ => rfl
  | id :: xs, i, s, h1, h2 => by
    have hp := bst_spec l [id] s h1
    simp only [List.foldl_cons, List.foldl_nil] at hp
    have ih := bloop l k0 xs (i + 1) (bst l s id) hp.len (by rw [hp.sum]; exact h2)
    unfold loopL
    rw [List.foldl_cons, ← ih]
    unfold bst
    cases decide (pl l id ≥ 0) with
    | false => rfl
    | true =>
      cases s.2.getD (pl l id).toNat false with
      | true => rfl
      | false => rw [decide_eq_true (show (s.1.length + 1) * 8 ≤ 140737488355328 by omega)]; rfl
theorem comes_in (n : Nat) (l : List Group) (hl : l.length ≤ 50) (hn : 100 ≤ n) (ns : List Int) (hns : ns.length ≤ 72) (k0 : List Group → List Int → List Bool → Option (List Bool)) (s : List Int × List Bool) (h1 : s.2.length = l.length) (h2 : s.1.length + nF s.2 ≤ 1000) :
    ref24_comes.l1 n l ns k0 n s.1 0 s.2 = k0 l (ns.foldl (bst l) s).1 (ns.foldl (bst l) s).2 := by
  rw [← bloop l (fun s => k0 l s.1 s.2) ns 0 s h1 h2]
  have key : ∀ (s : List Int × List Bool), s.2.length = l.length → ∀ (ys : List Int) (i m : Nat), ns.drop i = ys → i ≤ ns.length → ys.length < m → ref24_comes.l1 n l ns k0 m s.1 (i : Int) s.2 = loopL (R := List Bool) (fun _ id s => bif decide (pl l id ≥ 0) then (bif s.2.getD (pl l id).toNat false then .inr s else (bif decide ((s.1.length + 1) * 8 ≤ 140737488355328) then .inr (s.1 ++ [pl l id], s.2.set (pl l id).toNat true) else .inl none)) else .inr s) (fun s => k0 l s.1 s.2) i ys s := by
    intro s hs ys
    induction ys generalizing s with
    | nil =>
      intro i m hd hi hm
      have : ns.length ≤ i := List.drop_eq_nil_iff.1 hd
      have : i = ns.length := by omega
      subst this
      cases m with
      | zero => omega
      | succ m => simp only [ref24_comes.l1, ref24_comes.s1, Int.lt_irrefl, decide_false, cond_false]; rfl
    | cons y ys ih =>
      intro i m hd hi hm
      have hx : ns[i]? = some y := by
        have := congrArg (fun l => l[0]?) hd
        simpa [List.getElem?_drop] using this
      have hlt := (List.getElem?_eq_some_iff.1 hx).1
      have hd' : ns.drop (i + 1) = ys := by
        have := congrArg (List.drop 1) hd
        simpa [List.drop_drop, Nat.add_comm] using this
      cases m with
      | zero => simp at hm
      | succ m =>
        have hm' : ys.length < m := by simp at hm; omega
        have hsu : IntKind.wrap .i64 ((i : Int) + 1) = ((i + 1 : Nat) : Int) := by rw [succ_of hx (by omega)]; omega
        unfold loopL
        simp only [ref24_comes.l1, ref24_comes.s1, lt_of hx, decide_true, cond_true, inRange_of hx, getD_of hx, ref_place n l y (by omega) (by omega), obind_some, hsu]
        by_cases h0 : pl l y < 0
        · rw [decide_eq_false (by omega)]
          exact ih s hs (i + 1) m hd' (by omega) hm'
        · obtain ⟨j, hj, hjl⟩ := pl_nat h0
          have hin : inRange (j : Int) s.2.length = true := inRange_true (by omega) (by omega)
          rw [hj, decide_eq_true (show ((j : Int) ≥ 0) by omega)]
          simp only [hin, cond_true, Int.toNat_natCast, beq_self_eq_true, List.length_cons, List.length_nil, Nat.zero_add]
          cases hb : s.2.getD j false with
          | true => exact ih s hs (i + 1) m hd' (by omega) hm'
          | false =>
            cases decide ((s.1.length + 1) * 8 ≤ 140737488355328) with
            | false => rfl
            | true => exact ih (s.1 ++ [(j : Int)], s.2.set j true) (by show (s.2.set j true).length = _; rw [List.length_set]; exact hs) (i + 1) m hd' (by omega) hm'
  exact key s h1 ns 0 n rfl (by omega) (by omega)
structure BInv (l : List Group) (from1 : Nat) (s : List Int × List Bool) : Prop where
  len : s.2.length = l.length
  td : ∀ a ∈ s.1, ∃ j : Nat, a = (j : Int) ∧ j < l.length ∧ (j = from1 ∨ s.2[j]? = some true)
  r : ∀ j : Nat, s.2[j]? = some true → Reach l from1 j
  c : ∀ j : Nat, (j = from1 ∨ s.2[j]? = some true) → (j : Int) ∈ s.1 ∨ ∀ k, Edge l j k → s.2[k]? = some true
theorem comes_loop (n : Nat) (l : List Group) (hl : l.length ≤ 50) (hb : ∀ g ∈ l, Bs g.2.2) (hn : 100 ≤ n) (from1 : Nat) : ∀ (m : Nat) (s : List Int × List Bool), BInv l from1 s → s.1.length + nF s.2 < m → s.1.length + nF s.2 ≤ 1000 →
    ∃ is, ref24_comes.l0 n l m s.1 s.2 = some is ∧ BInv l from1 ([], is)
  | 0, _, _, h, _ => by omega
  | m + 1, ([], is), hi, _, _ => ⟨is, rfl, hi⟩
  | m + 1, (a :: rest, is), hi, hm, hk => by
    obtain ⟨j, rfl, hjl, hj⟩ := hi.td a List.mem_cons_self
    have hg : l[j]? = some l[j] := List.getElem?_eq_getElem hjl
    have hbg := hb _ (List.mem_of_getElem? hg)
    have hlen : is.length = l.length := hi.len
    have hk' : (rest.length + 1) + nF is ≤ 1000 := hk
    have hm' : (rest.length + 1) + nF is < m + 1 := hm
    have hp := bst_spec l (bnames l[j].2.2) (rest, is) hlen
    have hsum : ((bnames l[j].2.2).foldl (bst l) (rest, is)).1.length + nF ((bnames l[j].2.2).foldl (bst l) (rest, is)).2 = rest.length + nF is := hp.sum
    have e : ref24_comes.l0 n l (m + 1) ((j : Int) :: rest) is = ref24_comes.l1 n l (bnames l[j].2.2) (fun l' t v => ref24_comes.l0 n l' m t v) n rest 0 is := by
      simp only [ref24_comes.l0, ref24_comes.s0]
      rw [decide_eq_true (show (((((j : Int) :: rest).length : Nat) : Int) > 0) by rw [List.length_cons]; omega), cond_true]
      rw [show inRange 0 ((j : Int) :: rest).length = true from inRange_true (by omega) (by rw [List.length_cons]; omega), cond_true]
      rw [show List.getD ((j : Int) :: rest) 0 0 = (j : Int) from rfl, inRange_of hg, cond_true, getD_of hg, ref_names n _ hbg hn, obind_some]
      rw [decide_eq_true (show (1 : Int) ≤ ((((j : Int) :: rest).length : Nat) : Int) by rw [List.length_cons]; omega), cond_true]
      rfl
    show ∃ is', ref24_comes.l0 n l (m + 1) ((j : Int) :: rest) is = some is' ∧ _
    rw [e, comes_in n l hl hn _ hbg.names _ (rest, is) hlen (by show rest.length + nF is ≤ 1000; omega)]
    refine comes_loop n l hl hb hn from1 m _ ⟨hp.len, fun a ha => ?_, fun i hi' => ?_, fun i hi' => ?_⟩ (by omega) (by omega)
    · rcases hp.td a ha with h | ⟨i, h1, h2, h3⟩
      · obtain ⟨i, h1, h2, h3⟩ := hi.td a (List.mem_cons_of_mem _ h)
        exact ⟨i, h1, h2, h3.imp (fun h => h) (hp.mono i)⟩
      · exact ⟨i, h1, h2, .inr h3⟩
    · rcases hp.new i hi' with h | ⟨_, id, hid, h2⟩
      · exact hi.r i h
      · have he : Edge l j i := ⟨_, hg, id, hid, h2⟩
        rcases hj with rfl | hj
        · exact .one he
        · exact (hi.r j hj).snoc he
    · have hold : (i = from1 ∨ is[i]? = some true) → (i : Int) ∈ ((bnames l[j].2.2).foldl (bst l) (rest, is)).1 ∨ ∀ k, Edge l i k → ((bnames l[j].2.2).foldl (bst l) (rest, is)).2[k]? = some true := fun h => by
        rcases hi.c i h with h | h
        · rcases List.mem_cons.1 h with h | h
          · have : i = j := by omega
            subst this
            refine .inr fun k ⟨g', e1, id, hid, e2⟩ => ?_
            rw [hg] at e1
            cases e1
            exact hp.all id hid k e2
          · exact .inl (hp.sub _ h)
        · exact .inr fun k hk => hp.mono k (h k hk)
      rcases hi' with h | h
      · exact hold (.inl h)
      · rcases hp.new i h with h | ⟨h, _⟩
        · exact hold (.inr h)
        · exact .inl h
theorem comes_spec (n : Nat) (l : List Group) (hl : l.length ≤ 50) (hb : ∀ g ∈ l, Bs g.2.2) (hn : 100 ≤ n) (i : Nat) (hi : i < l.length) : ∃ is, ref24_comes n l (i : Int) = some is ∧ is.length = l.length ∧ ∀ j : Nat, is[j]? = some true ↔ Reach l i j := by
  have hrep : ∀ j : Nat, (List.replicate l.length false)[j]? ≠ some true := fun j h => by
    rw [List.getElem?_replicate] at h
    split at h <;> simp at h
  obtain ⟨is, h1, h2⟩ := comes_loop n l hl hb hn i n ([(i : Int)], List.replicate l.length false) ⟨by simp, fun a ha => ⟨i, List.mem_singleton.1 ha, hi, .inl rfl⟩, fun j hj => absurd hj (hrep j), fun j hj => by
    rcases hj with rfl | hj
    · exact .inl (List.mem_singleton.2 rfl)
    · exact absurd hj (hrep j)⟩ (by rw [nF_rep]; show 1 + _ < _; omega) (by rw [nF_rep]; show 1 + _ ≤ _; omega)
  refine ⟨is, ?_, h2.len, fun j => ⟨h2.r j, fun h => closed (i := i) (fun j => is[j]? = some true) (fun k he => ?_) (fun j hj k he => ?_) h (.inl rfl)⟩⟩
  · unfold ref24_comes ref24_comes.s
    rw [decide_eq_true (show (0 : Int) ≤ ((l.length : Nat) : Int) by omega), decide_eq_true (show ((l.length : Nat) : Int) ≤ ((l.length : Nat) : Int) by omega), decide_eq_true (show ((l.length : Nat) : Int) * ((1 : Nat) : Int) ≤ 281474976710656 by omega)]
    simp only [Bool.and_self, cond_true, Int.toNat_natCast]
    exact h1
  · rcases h2.c i (.inl rfl) with h | h
    · cases h
    · exact h k he
  · rcases h2.c j (.inr hj) with h | h
    · cases h
    · exact h k he

/-! ### both -/
theorem anyI_loop {α : Type} (p : Nat → α → Bool) : ∀ (xs : List α) (i : Nat), ∃ b, loopL (R := Bool) (fun i x (_ : Unit) => bif p i x then .inl (some true) else .inr ()) (fun _ => some false) i xs () = some b ∧ (b = true ↔ ∃ (j : Nat) (x : α), xs[j]? = some x ∧ p (i + j) x = true)
  | [], _ => ⟨false, rfl, fun h => (by cases h), fun ⟨j, x, h, _⟩ => by simp at h⟩
  | x :: xs, i => by
    obtain ⟨b, h1, h2⟩ := anyI_loop p xs (i + 1)
    unfold loopL
    cases hx : p i x with
    | true => exact ⟨true, rfl, fun _ => ⟨0, x, rfl, hx⟩, fun _ => rfl⟩
    | false =>
      refine ⟨b, h1, h2.trans ⟨fun ⟨j, y, q1, q2⟩ => ⟨j + 1, y, q1, by rw [← q2]; congr 1; omega⟩, fun ⟨j, y, q1, q2⟩ => ?_⟩⟩
      cases j with
      | zero =>
        have : x = y := by simpa using q1
        subst this
        rw [Nat.add_zero, hx] at q2
        cases q2
      | succ j => exact ⟨j, y, q1, by rw [← q2]; congr 1; omega⟩
theorem ref_loop_in (n : Nat) (l : List Group) (hl : l.length ≤ 50) (hn : 100 ≤ n) (i : Nat) (g : Group) (hg : l[i]? = some g) (is : List Bool) (his : is.length = l.length) (k0 : List Group → Int → Option Bool) :
    ref24_Loop.l1 n l (i : Int) is k0 n 0 = bif (l.zip is).any (fun p => p.2 && p.1.1 == g.1) then some true else k0 l ((i : Int) + 1) := by
  have hz : (l.zip is).length = l.length := by rw [List.length_zip]; omega
  have key := loopL_start (fun m (_ : Unit) j => ref24_Loop.l1 n l (i : Int) is k0 m j) (l.zip is) (step := fun _ p (_ : Unit) => bif (p.2 && p.1.1 == g.1) then .inl (some true) else .inr ()) (fin := fun _ => k0 l ((i : Int) + 1)) (fun m s j x hx => ?_) (fun m s => ?_) (m := n) (by omega) ()
  · rw [key, any_loopK]
  · obtain ⟨ha, hb⟩ := zip_get hx
    simp only [ref24_Loop.l1, ref24_Loop.s1, lt_of ha, decide_true, cond_true, inRange_of ha, inRange_of hb, getD_of ha, getD_of hb, succ_of ha (by omega), inRange_of hg, getD_of hg]
    cases x.2 with
    | false => rfl
    | true => cases (x.1.1 == g.1) <;> rfl
  · rw [hz]
    simp only [ref24_Loop.l1, ref24_Loop.s1, Int.lt_irrefl, decide_false, cond_false, succ_of hg (by omega)]
theorem ref_loop_spec (n : Nat) (l : List Group) (hl : l.length ≤ 50) (hb : ∀ g ∈ l, Bs g.2.2) (hn : 100 ≤ n) : ∃ b, ref24_Loop n l = some b ∧ (b = true ↔ LoopP l) := by
  have hcs : ∀ i, ∃ is, i < l.length → ref24_comes n l (i : Int) = some is ∧ is.length = l.length ∧ ∀ j : Nat, is[j]? = some true ↔ Reach l i j := fun i => by
    by_cases h : i < l.length
    · obtain ⟨is, q⟩ := comes_spec n l hl hb hn i h
      exact ⟨is, fun _ => q⟩
    · exact ⟨[], fun h' => absurd h' h⟩
  obtain ⟨cs, hcs⟩ := Classical.axiomOfChoice hcs
  obtain ⟨b, h1, h2⟩ := anyI_loop (fun i (g : Group) => (l.zip (cs i)).any (fun p => p.2 && p.1.1 == g.1)) l 0
  refine ⟨b, ?_, h2.trans ?_⟩
  · show ref24_Loop.l0 n l n 0 = _
    rw [← h1]
    refine loopL_start (σ := Unit) (fun m _ i => ref24_Loop.l0 n l m i) l (fun m _ i x hx => ?_) (fun m _ => ?_) (by omega) ()
    · obtain ⟨q1, q2, _⟩ := hcs i (List.getElem?_eq_some_iff.1 hx).1
      simp only [ref24_Loop.l0, ref24_Loop.s0, lt_of hx, decide_true, cond_true, q1, obind_some]
      rw [ref_loop_in n l hl hn i x hx _ q2]
      cases (l.zip (cs i)).any (fun p => p.2 && p.1.1 == x.1) <;> rfl
    · simp only [ref24_Loop.l0, ref24_Loop.s0, Int.lt_irrefl, decide_false, cond_false]
  · constructor
    · rintro ⟨j, g, hg, hp⟩
      rw [Nat.zero_add] at hp
      obtain ⟨q1, q2, q3⟩ := hcs j (List.getElem?_eq_some_iff.1 hg).1
      obtain ⟨⟨g', v⟩, hm, hv⟩ := List.any_eq_true.1 hp
      obtain ⟨k, hk⟩ := List.getElem?_of_mem hm
      obtain ⟨ha, hb⟩ := zip_get hk
      simp only [Bool.and_eq_true, beq_iff_eq] at hv
      have hb : (cs j)[k]? = some v := hb
      rw [hv.1] at hb
      exact ⟨j, g, hg, k, g', ha, (q3 k).1 hb, hv.2⟩
    · rintro ⟨j, g, hg, k, g', hk, hr, he⟩
      obtain ⟨q1, q2, q3⟩ := hcs j (List.getElem?_eq_some_iff.1 hg).1
      refine ⟨j, g, hg, ?_⟩
      rw [Nat.zero_add]
      refine List.any_eq_true.2 ⟨(g', true), ?_, by simp [he]⟩
      refine List.mem_of_getElem? (i := k) ?_
      rw [List.getElem?_zip_eq_some]
      exact ⟨hk, (q3 k).2 hr⟩
noncomputable def loopB (l : List Group) : Bool := @decide (LoopP l) (Classical.propDecidable _)
theorem loopB_iff (l : List Group) : loopB l = true ↔ LoopP l := by unfold loopB; exact @decide_eq_true_iff _ (Classical.propDecidable _)
theorem loop_eq (n : Nat) (l : List Group) (hl : l.length ≤ 50) (hb : ∀ g ∈ l, Bs g.2.2) (hn : 100 ≤ n) : group_Loop n l = some (loopB l) := by
  obtain ⟨b, h1, h2⟩ := loop_spec n l hl hb hn
  rw [h1, show b = loopB l by rw [Bool.eq_iff_iff, h2, loopB_iff]]
theorem ref_loop_eq (n : Nat) (l : List Group) (hl : l.length ≤ 50) (hb : ∀ g ∈ l, Bs g.2.2) (hn : 100 ≤ n) : ref24_Loop n l = some (loopB l) := by
  obtain ⟨b, h1, h2⟩ := ref_loop_spec n l hl hb hn
  rw [h1, show b = loopB l by rw [Bool.eq_iff_iff, h2, loopB_iff]]
end P24
end Go.Fn
