/- The laws of the groups (chapter 24): GroupStays, GroupEnds, GroupGone. -/
import Derived.Test.YtagpigbfbhdoiaaPGroupLaws
set_option maxRecDepth 100000
namespace Go.Fn
open Go Go.Vi
namespace P24

def RightP (l : List Group) : Prop := l.length ≤ 8 ∧ ¬ LoopP l ∧ ∀ (i : Nat) (g : Group), l[i]? = some g → (0 ≤ g.1 ∧ g.1 ≤ 4294967040) ∧ pl l g.1 = (i : Int) ∧ (ck g.2.1 g.2.2).1 = false ∧ thereB l g.2.2 = true
theorem okAt_iff (l : List Group) (i : Nat) (g : Group) : okAt l i g = true ↔ (0 ≤ g.1 ∧ g.1 ≤ 4294967040) ∧ pl l g.1 = (i : Int) ∧ (ck g.2.1 g.2.2).1 = false ∧ thereB l g.2.2 = true := by
  unfold okAt
  simp only [Bool.and_eq_true, Bool.not_eq_true', decide_eq_false_iff_not, beq_iff_eq]
  constructor
  · rintro ⟨⟨⟨h1, h2⟩, h3⟩, h4, h5⟩; exact ⟨⟨by omega, by omega⟩, h3, h4, h5⟩
  · rintro ⟨⟨h1, h2⟩, h3, h4, h5⟩; exact ⟨⟨⟨by omega, by omega⟩, h3⟩, h4, h5⟩
theorem right_iff (l : List Group) : rightB l = true ↔ RightP l := by
  unfold rightB RightP
  rw [Bool.and_eq_true, Bool.and_eq_true, decide_eq_true_iff, allI_iff]
  constructor
  · rintro ⟨⟨h1, h2⟩, h3⟩
    refine ⟨h1, fun hp => ?_, fun i g hg => (okAt_iff l i g).1 (by have := h3 i g hg; rwa [Nat.zero_add] at this)⟩
    rw [(loopB_iff l).2 hp] at h2
    cases h2
  · rintro ⟨h1, h2, h3⟩
    refine ⟨⟨h1, ?_⟩, fun i g hg => by rw [Nat.zero_add]; exact (okAt_iff l i g).2 (h3 i g hg)⟩
    cases h : loopB l with
    | false => rfl
    | true => exact absurd ((loopB_iff l).1 h) h2
theorem pl_any (l : List Group) (id : Int) : decide (pl l id ≥ 0) = l.any fun g => g.1 == id := idx_nonneg _ l 0
theorem pl_mem (l : List Group) (id : Int) : 0 ≤ pl l id ↔ ∃ g ∈ l, g.1 = id := by
  have := pl_any l id
  rw [Bool.eq_iff_iff, decide_eq_true_iff, List.any_eq_true] at this
  exact this.trans ⟨fun ⟨g, h1, h2⟩ => ⟨g, h1, by simpa using h2⟩, fun ⟨g, h1, h2⟩ => ⟨g, h1, by simpa using h2⟩⟩
theorem there_iff (l : List Group) (b : List Bucket) : thereB l b = true ↔ ∀ id ∈ bnames b, 0 ≤ pl l id := by
  unfold thereB
  rw [Bool.not_eq_true', List.any_eq_false]
  exact ⟨fun h id hid => by have := h id hid; simp only [decide_eq_true_eq] at this; omega, fun h id hid => by have := h id hid; simp only [decide_eq_true_eq]; omega⟩
theorem goes_iff (id : Int) (g : Group) : goes id g = true ↔ id ∈ bnames g.2.2 := by
  unfold goes
  rw [List.any_eq_true]
  exact ⟨fun ⟨x, h1, h2⟩ => by rw [beq_iff_eq] at h2; rw [h2]; exact h1, fun h => ⟨id, h, by simp⟩⟩

/-! ### what is done keeps what may be -/
theorem idx_append {α : Type} (p : α → Bool) : ∀ (xs ys : List α) (i : Nat), idxOf p i (xs ++ ys) = bif xs.any p then idxOf p i xs else idxOf p (i + xs.length) ys
  | [], _, _ => rfl
  | x :: xs, ys, i => by
    rw [List.cons_append, List.any_cons]
    unfold idxOf
    cases h : p x with
    | true => rfl
    | false =>
      rw [cond_false, cond_false, Bool.false_or, idx_append p xs ys (i + 1), List.length_cons]
      congr 1
      rw [show i + 1 + xs.length = i + (xs.length + 1) by omega]
      cases ys <;> rfl
theorem idx_map (id : Int) : ∀ (xs : List Group) (i : Nat), idxOf (fun g : Group => g.1 == id) i xs = idxOf (fun x : Int => x == id) i (xs.map fun g => g.1)
  | [], _ => rfl
  | x :: xs, i => by
    rw [List.map_cons]
    unfold idxOf
    rw [idx_map id xs (i + 1)]
theorem pl_set (l : List Group) (j : Nat) (g : Group) (h : ∃ g', l[j]? = some g' ∧ g'.1 = g.1) (id : Int) : pl (l.set j g) id = pl l id := by
  unfold pl
  rw [idx_map, idx_map]
  congr 1
  obtain ⟨g', h1, h2⟩ := h
  rw [List.map_set]
  refine List.ext_getElem? fun i => ?_
  by_cases hij : i = j
  · subst hij
    have hlt := (List.getElem?_eq_some_iff.1 h1).1
    rw [List.getElem?_set_self (by rw [List.length_map]; exact hlt), List.getElem?_map, h1]
    show some g.1 = some g'.1
    rw [h2]
  · rw [List.getElem?_set_ne (Ne.symm hij)]
theorem right_out (l : List Group) (m : GroupMod) (h : RightP l) (hid : 0 ≤ m.2.2.1 ∧ m.2.2.1 ≤ 4294967040) (h8 : pl l m.2.2.1 < 0 → l.length < 8) (hc : (ck m.2.1 m.2.2.2).1 = false) (ht : thereB (outF l m) m.2.2.2 = true) (hlp : loopB (outF l m) = false) : RightP (outF l m) := by
  obtain ⟨r1, r2, r3⟩ := h
  have hnl : ¬ LoopP (outF l m) := fun hp => by rw [(loopB_iff _).2 hp] at hlp; cases hlp
  by_cases h0 : pl l m.2.2.1 < 0
  · have e : outF l m = l ++ [gOf m] := by unfold outF; rw [decide_eq_true h0]; rfl
    rw [e] at ht hnl ⊢
    have hold : ∀ id, 0 ≤ pl l id → pl (l ++ [gOf m]) id = pl l id := fun id h => by
      have ha := pl_any l id
      rw [decide_eq_true h] at ha
      unfold pl
      rw [idx_append, ← ha]; rfl
    refine ⟨by rw [List.length_append, List.length_cons, List.length_nil]; have := h8 h0; omega, hnl, fun i g hg => ?_⟩
    by_cases hi : i < l.length
    · rw [List.getElem?_append_left hi] at hg
      obtain ⟨q1, q2, q3, q4⟩ := r3 i g hg
      refine ⟨q1, by rw [hold _ (by omega), q2], q3, (there_iff _ _).2 fun id hid => ?_⟩
      have := (there_iff _ _).1 q4 id hid
      rw [hold id this]; exact this
    · rw [List.getElem?_append_right (by omega)] at hg
      have hi0 : i - l.length = 0 := by
        rcases Nat.eq_zero_or_pos (i - l.length) with h | h
        · exact h
        · rw [List.getElem?_eq_none (by rw [List.length_cons, List.length_nil]; omega)] at hg; cases hg
      rw [hi0] at hg
      have : gOf m = g := Option.some.inj hg
      subst this
      refine ⟨hid, ?_, hc, ht⟩
      have ha := pl_any l m.2.2.1
      rw [decide_eq_false (by omega)] at ha
      show pl (l ++ [gOf m]) m.2.2.1 = _
      unfold pl
      rw [idx_append, ← ha]
      show (bif m.2.2.1 == m.2.2.1 then ((0 + l.length : Nat) : Int) else -1) = _
      rw [beq_self_eq_true, cond_true]
      omega
  · obtain ⟨j, hj, hjl⟩ := pl_nat h0
    have e : outF l m = l.set j (gOf m) := by unfold outF; rw [decide_eq_false h0, hj]; rfl
    rw [e] at ht hnl ⊢
    have hpl := pl_set l j (gOf m) (pl_lt hj)
    refine ⟨by rw [List.length_set]; exact r1, hnl, fun i g hg => ?_⟩
    by_cases hij : i = j
    · subst hij
      rw [List.getElem?_set_self hjl] at hg
      have : gOf m = g := Option.some.inj hg
      subst this
      exact ⟨hid, by rw [hpl]; exact hj, hc, ht⟩
    · rw [List.getElem?_set_ne (Ne.symm hij)] at hg
      obtain ⟨q1, q2, q3, q4⟩ := r3 i g hg
      refine ⟨q1, by rw [hpl]; exact q2, q3, (there_iff _ _).2 fun id hid => ?_⟩
      rw [hpl]
      exact (there_iff _ _).1 q4 id hid
theorem right_nil : RightP [] := ⟨by simp, fun ⟨j, g, h, _⟩ => by simp at h, fun i g h => by simp at h⟩
theorem mem_pl {l : List Group} (h : RightP l) {g : Group} (hg : g ∈ l) : ∃ i : Nat, l[i]? = some g ∧ pl l g.1 = (i : Int) := by
  obtain ⟨i, hi⟩ := List.getElem?_of_mem hg
  exact ⟨i, hi, (h.2.2 i g hi).2.1⟩
theorem right_filter (l : List Group) (id : Int) (h : RightP l) (hn : (decide (pl l id ≥ 0) && namedB l id) = false) : RightP (l.filter fun g => !(g.1 == id)) := by
  have h0 := h
  obtain ⟨r1, r2, r3⟩ := h0
  have hmem : ∀ g, g ∈ (l.filter fun g => !(g.1 == id)) ↔ g ∈ l ∧ g.1 ≠ id := fun g => by
    rw [List.mem_filter]
    simp
  have hnd : ((l.filter fun g => !(g.1 == id)).map fun g => g.1).Pairwise (fun a b => a ≠ b) := by
    have hl : (l.map fun g => g.1).Pairwise (fun a b => a ≠ b) := by
      refine List.pairwise_iff_getElem.2 fun i j hi hj hij he => ?_
      rw [List.getElem_map, List.getElem_map] at he
      rw [List.length_map] at hi hj
      have a1 := (r3 i _ (List.getElem?_eq_getElem hi)).2.1
      have a2 := (r3 j _ (List.getElem?_eq_getElem hj)).2.1
      rw [he, a2] at a1
      omega
    exact List.Pairwise.sublist (List.filter_sublist.map _) hl
  refine ⟨Nat.le_trans (List.length_filter_le _ _) r1, fun hp => r2 ?_, fun i g hg => ?_⟩
  · have key : ∀ {a b : Nat}, Reach (l.filter fun g => !(g.1 == id)) a b → ∀ i : Nat, (∃ g, (l.filter fun g => !(g.1 == id))[a]? = some g ∧ l[i]? = some g) → ∃ i' : Nat, (∃ g', (l.filter fun g => !(g.1 == id))[b]? = some g' ∧ l[i']? = some g') ∧ Reach l i i' := by
      have one : ∀ {a b : Nat}, Edge (l.filter fun g => !(g.1 == id)) a b → ∀ i : Nat, (∃ g, (l.filter fun g => !(g.1 == id))[a]? = some g ∧ l[i]? = some g) → ∃ i' : Nat, (∃ g', (l.filter fun g => !(g.1 == id))[b]? = some g' ∧ l[i']? = some g') ∧ Edge l i i' := by
        rintro a b ⟨g, hg, x, hx, hpl⟩ i ⟨g2, hg2, hi⟩
        rw [hg] at hg2
        cases hg2
        obtain ⟨g', hg', he⟩ := pl_lt hpl
        obtain ⟨i', q1, q2⟩ := mem_pl h ((hmem g').1 (List.mem_of_getElem? hg')).1
        exact ⟨i', ⟨g', hg', q1⟩, g, hi, x, hx, by rw [← he]; exact q2⟩
      intro a b hr
      induction hr with
      | one e =>
        intro i hi
        obtain ⟨i', h1, h2⟩ := one e i hi
        exact ⟨i', h1, .one h2⟩
      | step e _ ih =>
        intro i hi
        obtain ⟨i1, h1, h2⟩ := one e i hi
        obtain ⟨i2, h3, h4⟩ := ih i1 h1
        exact ⟨i2, h3, .step h2 h4⟩
    obtain ⟨j, g, hg, k, g', hk, hr, he⟩ := hp
    obtain ⟨i, q1, _⟩ := mem_pl h ((hmem g).1 (List.mem_of_getElem? hg)).1
    obtain ⟨i', ⟨g2, q3, q4⟩, q5⟩ := key hr i ⟨g, hg, q1⟩
    rw [hk] at q3
    cases q3
    exact ⟨i, g, q1, i', g', q4, q5, he⟩
  · have hg' := (hmem g).1 (List.mem_of_getElem? hg)
    obtain ⟨i0, hi0⟩ := List.getElem?_of_mem hg'.1
    obtain ⟨q1, q2, q3, q4⟩ := r3 i0 g hi0
    refine ⟨q1, ?_, q3, (there_iff _ _).2 fun x hx => ?_⟩
    · obtain ⟨j, hj, hjl⟩ := pl_nat (l := l.filter fun g => !(g.1 == id)) (id := g.1) (by have := (pl_mem (l.filter fun g => !(g.1 == id)) g.1).2 ⟨g, List.mem_of_getElem? hg, rfl⟩; omega)
      obtain ⟨g2, h2, h3⟩ := pl_lt hj
      rw [hj]
      have hil := (List.getElem?_eq_some_iff.1 hg).1
      have m1 : ((l.filter fun g => !(g.1 == id)).map fun g => g.1)[i]? = some g.1 := by rw [List.getElem?_map, hg]; rfl
      have m2 : ((l.filter fun g => !(g.1 == id)).map fun g => g.1)[j]? = some g.1 := by rw [List.getElem?_map, h2]; show some g2.1 = _; rw [h3]
      obtain ⟨n1, n2⟩ := List.getElem?_eq_some_iff.1 m1
      obtain ⟨n3, n4⟩ := List.getElem?_eq_some_iff.1 m2
      rcases Nat.lt_trichotomy i j with hlt | heq | hgt
      · exact absurd (n2.trans n4.symm) (List.pairwise_iff_getElem.1 hnd i j n1 n3 hlt)
      · rw [heq]
      · exact absurd (n4.trans n2.symm) (List.pairwise_iff_getElem.1 hnd j i n3 n1 hgt)
    · have hp := (there_iff _ _).1 q4 x hx
      obtain ⟨g2, h2, h3⟩ := (pl_mem l x).1 hp
      refine (pl_mem _ x).2 ⟨g2, (hmem g2).2 ⟨h2, fun he => ?_⟩, h3⟩
      have hxid : x = id := by rw [← h3, he]
      subst hxid
      have : namedB l x = true := List.any_eq_true.2 ⟨g, hg'.1, by
        rw [(goes_iff x g).2 hx, show (g.1 == x) = false from beq_eq_false_iff_ne.2 hg'.2]; rfl⟩
      rw [this, decide_eq_true hp] at hn
      cases hn
theorem put_cases (l : List Group) (m : GroupMod) : ((putF l m).2.1 = true ∧ (putF l m).1 = []) ∨ ((ck m.2.1 m.2.2.2).1 = false ∧ thereB (outF l m) m.2.2.2 = true ∧ loopB (outF l m) = false ∧ putF l m = (outF l m, fine)) := by
  unfold putF
  cases hc : (ck m.2.1 m.2.2.2).1 with
  | true => exact .inl ⟨hc, rfl⟩
  | false =>
    cases ht : thereB (outF l m) m.2.2.2 with
    | false => exact .inl ⟨rfl, rfl⟩
    | true =>
      cases hl : loopB (outF l m) with
      | true => exact .inl ⟨rfl, rfl⟩
      | false => exact .inr ⟨rfl, rfl, rfl, rfl⟩
theorem drop_cases (l : List Group) (id : Int) : ((dropF l id).2.1 = true ∧ (dropF l id).1 = []) ∨ dropF l id = ([], fine) ∨ ((decide (pl l id ≥ 0) && namedB l id) = false ∧ dropF l id = (l.filter (fun g => !(g.1 == id)), fine)) := by
  unfold dropF
  cases (id == 4294967292) with
  | true => exact .inr (.inl rfl)
  | false =>
    cases decide (id < 0) with
    | true => exact .inl ⟨rfl, rfl⟩
    | false =>
      cases decide (id > 4294967040) with
      | true => exact .inl ⟨rfl, rfl⟩
      | false =>
        cases decide (pl l id ≥ 0) && namedB l id with
        | true => exact .inl ⟨rfl, rfl⟩
        | false => exact .inr (.inr ⟨rfl, rfl⟩)
theorem do_right (l : List Group) (m : GroupMod) (h : RightP l) : ((doF l m).2.1 = true ∧ (doF l m).1 = []) ∨ ((doF l m).2.1 = false ∧ RightP (doF l m).1) := by
  unfold doF
  cases (m.1 == 2) with
  | true =>
    show ((dropF l m.2.2.1).2.1 = true ∧ _) ∨ _
    rcases drop_cases l m.2.2.1 with q | q | ⟨q1, q2⟩
    · exact .inl q
    · exact .inr (by rw [cond_true, q]; exact ⟨rfl, right_nil⟩)
    · exact .inr (by rw [cond_true, q2]; exact ⟨rfl, right_filter l _ h q1⟩)
  | false =>
    rw [cond_false]
    cases !(m.1 == 0) && !(m.1 == 1) with
    | true => exact .inl ⟨rfl, rfl⟩
    | false =>
      by_cases h1 : m.2.2.1 < 0
      · rw [decide_eq_true h1]; exact .inl ⟨rfl, rfl⟩
      · rw [decide_eq_false h1]
        by_cases h2 : m.2.2.1 > 4294967040
        · rw [decide_eq_true h2]; exact .inl ⟨rfl, rfl⟩
        · rw [decide_eq_false h2]
          have hput : (pl l m.2.2.1 < 0 → l.length < 8) → ((putF l m).2.1 = true ∧ (putF l m).1 = []) ∨ ((putF l m).2.1 = false ∧ RightP (putF l m).1) := fun h8 => by
            rcases put_cases l m with q | ⟨q1, q2, q3, q4⟩
            · exact .inl q
            · exact .inr (by rw [q4]; exact ⟨rfl, right_out l m h ⟨by omega, by omega⟩ h8 q1 q2 q3⟩)
          cases (m.1 == 1) with
          | true =>
            by_cases h0 : pl l m.2.2.1 < 0
            · rw [decide_eq_true h0]; exact .inl ⟨rfl, rfl⟩
            · rw [decide_eq_false h0]; exact hput (fun h => absurd h h0)
          | false =>
            cases decide (pl l m.2.2.1 ≥ 0) with
            | true => exact .inl ⟨rfl, rfl⟩
            | false =>
              by_cases h8 : ((List.length l : Nat) : Int) ≥ 8
              · rw [decide_eq_true h8]; exact .inl ⟨rfl, rfl⟩
              · rw [decide_eq_false h8]; exact hput (fun _ => by omega)
theorem stays (mods : List GroupMod) : law24_GroupStays 300 mods = some true := by
  have hn : 100 ≤ 300 := by omega
  unfold law24_GroupStays law24_GroupStays.s
  by_cases h20 : ((mods.length : Nat) : Int) > 20
  · rw [decide_eq_true h20]; simp only [awake24, obind_some]; rfl
  · rw [decide_eq_false h20, long_mods 300 mods (by omega) hn, obind_some]
    cases hq : mods.any fun m => !bsB m.2.2.2 with
    | true => simp only [awake24, obind_some]; rfl
    | false =>
      have hbs := long_no hq
      show law24_GroupStays.l0 300 mods ((mods.length : Nat) : Int) 300 [] ((0 : Nat) : Int) = some true
      refine loop_inv (fun m l i => law24_GroupStays.l0 300 mods ((mods.length : Nat) : Int) m l i) mods (fun l => Inv l ∧ RightP l) (some true) (fun m s i x hx hI => ?_) (fun m s hI => ?_) mods 0 300 [] rfl (by omega) (by omega) ⟨inv_nil, right_nil⟩
      · have hbx := hbs x (List.mem_of_getElem? hx)
        have hd := do_inv s x hI.1 hbx
        have hI1 := hI.1.1
        have hd1 := hd.1
        have e1 := do_eq 300 s x (by omega) hI.1.2 hbx hn
        have e4 := right_eq 300 (doF s x).1 (by omega) hd.2 hn
        right
        rcases do_right s x hI.2 with ⟨q1, q2⟩ | ⟨q1, q2⟩
        · refine ⟨s, hI, ?_⟩
          simp only [law24_GroupStays.l0, law24_GroupStays.s0, lt_of hx, decide_true, cond_true, inRange_of hx, getD_of hx, succ_of hx (by omega), e1, obind_some, q1, q2]
          rfl
        · refine ⟨(doF s x).1, ⟨hd, q2⟩, ?_⟩
          rw [(right_iff _).2 q2] at e4
          have h8 : decide ((((doF s x).1.length : Nat) : Int) > 8) = false := decide_eq_false (by have := q2.1; omega)
          simp only [law24_GroupStays.l0, law24_GroupStays.s0, lt_of hx, decide_true, cond_true, inRange_of hx, getD_of hx, succ_of hx (by omega), e1, obind_some, q1, cond_false, e4, h8]
          rfl
      · simp only [law24_GroupStays.l0, law24_GroupStays.s0, Int.lt_irrefl, decide_false, cond_false, awake24, obind_some]

/-! ### whoever goes on ends -/
theorem ends_loop (l : List Group) (hl : l.length ≤ 10) (hb : ∀ g ∈ l, Bs g.2.2) (hr : RightP l) (choices : List Int) (hc : ∀ c ∈ choices, 0 ≤ c ∧ c ≤ 255) : ∀ (m i a : Nat) (g : Group) (path : List Int), l[a]? = some g → i ≤ choices.length → cnt l.length path + path.length ≤ l.length → path.length = i + 1 →
    (∀ b : Nat, (b : Int) ∈ path → b = a ∨ Reach l b a) → l.length < m + i → law24_GroupEnds.l0 300 l choices ((choices.length : Nat) : Int) m (i : Int) g = some true
  | 0, i, _, _, path, _, _, h1, h2, _, h3 => by omega
  | m + 1, i, a, g, path, hg, hi, h1, h2, hp, hm => by
    have hn : 100 ≤ 300 := by omega
    have hbg := hb g (List.mem_of_getElem? hg)
    by_cases hlt : i < choices.length
    · have hx : choices[i]? = some choices[i] := List.getElem?_eq_getElem hlt
      have hcx := hc _ (List.getElem_mem hlt)
      simp only [law24_GroupEnds.l0, law24_GroupEnds.s0, lt_of hx, decide_true, cond_true, inRange_of hx, getD_of hx, names 300 _ hbg hn, obind_some]
      by_cases h0 : (bnames g.2.2).length = 0
      · rw [h0]; simp only [awake24, obind_some]; rfl
      · have hz : (((List.length (bnames g.2.2) : Nat) : Int) == 0) = false := beq_eq_false_iff_ne.2 (by omega)
        have hw : IntKind.wrap .i64 choices[i] = choices[i] := w64 (by omega) (by omega)
        have ht1 : 0 ≤ Int.tmod choices[i] ((bnames g.2.2).length : Int) := Int.tmod_nonneg _ hcx.1
        have ht2 : Int.tmod choices[i] ((bnames g.2.2).length : Int) < ((bnames g.2.2).length : Int) := Int.tmod_lt_of_pos _ (by omega)
        obtain ⟨k, hk⟩ := Int.eq_ofNat_of_zero_le ht1
        rw [hz, hw, hk]
        have hkl : k < (bnames g.2.2).length := by omega
        have hgk : (bnames g.2.2)[k]? = some (bnames g.2.2)[k] := List.getElem?_eq_getElem hkl
        have hpl := (there_iff _ _).1 (hr.2.2 a g hg).2.2.2 _ (List.getElem_mem hkl)
        obtain ⟨j, hj, hjl⟩ := pl_nat (l := l) (id := (bnames g.2.2)[k]) (by omega)
        have hgj : l[j]? = some l[j] := List.getElem?_eq_getElem hjl
        have hed : Edge l a j := ⟨g, hg, _, List.getElem_mem hkl, hj⟩
        have hfind : findF l (bnames g.2.2)[k] = (l[j], true) := by
          unfold findF
          rw [decide_eq_false (by omega), hj, cond_false]
          show (List.getD l (Int.toNat (j : Int)) (0, 0, ([] : List Bucket)), true) = _
          rw [getD_of hgj]
        have hnp : path.contains (j : Int) = false := by
          cases hcn : path.contains (j : Int) with
          | false => rfl
          | true =>
            have hloop : Reach l j j := by
              rcases hp j (by simpa using hcn) with rfl | h
              · exact .one hed
              · exact h.snoc hed
            exact absurd ⟨j, l[j], hgj, j, l[j], hgj, hloop, rfl⟩ hr.2.1
        have hcl := cnt_lt hjl hnp
        have hpl' : (path ++ [(j : Int)]).length = i + 1 + 1 := by rw [List.length_append, h2]; rfl
        have hle : i + 1 + 1 ≤ l.length := by omega
        have hsu : IntKind.wrap .i64 ((i : Int) + 1) = ((i + 1 : Nat) : Int) := by rw [w64 (by omega) (by omega)]; omega
        have hge : decide (((i + 1 : Nat) : Int) ≥ ((l.length : Nat) : Int)) = false := decide_eq_false (by omega)
        have ih := ends_loop l hl hb hr choices hc m (i + 1) j l[j] (path ++ [(j : Int)]) hgj (by omega) (by omega) hpl' (fun b hbm => by
          rcases List.mem_append.1 hbm with h | h
          · rcases hp b h with rfl | h
            · exact .inr (.one hed)
            · exact .inr (h.snoc hed)
          · have := List.mem_singleton.1 h
            exact .inl (by omega)) (by omega)
        simp only [Bool.not_false, cond_true, cond_false, inRange_of hgk, getD_of hgk, find_eq 300 l _ (by omega) hb hn, hfind, obind_some, hsu, hge, Bool.not_true, beq_self_eq_true]
        exact ih
    · have : i = choices.length := by omega
      subst this
      simp only [law24_GroupEnds.l0, law24_GroupEnds.s0, Int.lt_irrefl, decide_false, cond_false, awake24, obind_some]
theorem ends (l : List Group) (from1 : Int) (choices : List Int) (hf : 0 ≤ from1 ∧ from1 ≤ 255) (hc : ∀ c ∈ choices, 0 ≤ c ∧ c ≤ 255) : law24_GroupEnds 300 l from1 choices = some true := by
  have hn : 100 ≤ 300 := by omega
  unfold law24_GroupEnds law24_GroupEnds.s
  obtain ⟨r, h1, h2⟩ := groups 300 l hn
  rw [h1, obind_some]
  cases r with
  | false => simp only [awake24, obind_some]; rfl
  | true =>
    have hG := h2 rfl
    have hl := hG.1
    rw [right_eq 300 l (by omega) hG.2 hn, obind_some]
    cases hr : rightB l with
    | false => simp only [awake24, obind_some]; rfl
    | true =>
      have hR := (right_iff l).1 hr
      by_cases h0 : l.length = 0
      · rw [h0]; simp only [awake24, obind_some]; rfl
      · have hz : (((List.length l : Nat) : Int) == 0) = false := beq_eq_false_iff_ne.2 (by omega)
        have hw : IntKind.wrap .i64 from1 = from1 := w64 (by omega) (by omega)
        have ht1 : 0 ≤ Int.tmod from1 (l.length : Int) := Int.tmod_nonneg _ hf.1
        have ht2 : Int.tmod from1 (l.length : Int) < (l.length : Int) := Int.tmod_lt_of_pos _ (by omega)
        obtain ⟨a, ha⟩ := Int.eq_ofNat_of_zero_le ht1
        have hga : l[a]? = some l[a] := List.getElem?_eq_getElem (by omega)
        rw [hz, hw, ha]
        simp only [Bool.not_true, Bool.not_false, beq_self_eq_true, cond_true, cond_false, inRange_of hga, getD_of hga]
        have hcl := cnt_lt (len := l.length) (s := []) (j := a) (by omega) rfl
        have hc0 : cnt l.length [] ≤ l.length := by unfold cnt; exact Nat.le_trans (List.length_filter_le _ _) (by simp)
        exact ends_loop l hl hG.2 hR choices hc 300 0 a l[a] ([] ++ [(a : Int)]) hga (Nat.zero_le _) (by
          show cnt l.length ([] ++ [(a : Int)]) + 1 ≤ _
          omega) rfl (fun b hbm => by
          have := List.mem_singleton.1 hbm
          exact .inl (by omega)) (by omega)

/-! ### what is gone -/
theorem named_any (l : List Group) (id : Int) (hl : l.length ≤ 50) (hb : ∀ g ∈ l, Bs g.2.2) : slices_ContainsFunc_Group 300 l (fun x => law24_GroupGone_1 300 x id) = some (l.any fun g => goes id g) := by
  refine contains_Group 300 l _ (fun g => goes id g) (fun x hx => ?_) (by omega) (by omega)
  have hbn := (hb x hx).names
  unfold law24_GroupGone_1
  rw [names 300 _ (hb x hx) (by omega), obind_some, contains_ints 300 _ id (by omega) (by omega), obind_some]; rfl
theorem gone_2 (id : Int) (g : Group) : law24_GroupGone_2 g id = ((g.1 == id) || (id == 4294967292)) := by
  unfold law24_GroupGone_2
  cases (g.1 == id) <;> rfl
theorem gone (l : List Group) (id : Int) : law24_GroupGone 300 l id = some true := by
  have hn : 100 ≤ 300 := by omega
  unfold law24_GroupGone
  obtain ⟨r, h1, h2⟩ := groups 300 l hn
  rw [h1, obind_some]
  cases r with
  | false => simp only [awake24, obind_some]; rfl
  | true =>
    have hG := h2 rfl
    have hl := hG.1
    rw [right_eq 300 l (by omega) hG.2 hn, obind_some]
    cases hr : rightB l with
    | false => simp only [awake24, obind_some]; rfl
    | true =>
      have hR := (right_iff l).1 hr
      have hdo := do_eq 300 l (2, 0, id, []) (by omega) hG.2 ⟨by simp, fun x h => by cases h⟩ hn
      have hdf : doF l (2, 0, id, []) = dropF l id := rfl
      have hcl : slices_Clone_Group l = some l := by unfold slices_Clone_Group; rw [decide_eq_true (by rw [List.length_nil]; omega)]; rfl
      have hdel := delete 300 (fun x => some (law24_GroupGone_2 x id)) (fun g => (g.1 == id) || (id == 4294967292)) (fun g => by rw [gone_2]) l (by omega) hn
      rw [hdf] at hdo
      simp only [Bool.not_true, cond_false, beq_self_eq_true, cond_true, named_any l id (by omega) hG.2, obind_some, hdo, hcl, hdel]
      -- who is named is there
      have hthere : ∀ g ∈ l, goes id g = true → 0 ≤ pl l id := fun g hg hgo => by
        obtain ⟨i, q1, _⟩ := mem_pl hR hg
        exact (there_iff _ _).1 (hR.2.2 i g q1).2.2.2 id ((goes_iff id g).1 hgo)
      have hnum : 0 ≤ pl l id → 0 ≤ id ∧ id ≤ 4294967040 := fun h => by
        obtain ⟨g, hg, he⟩ := (pl_mem l id).1 h
        obtain ⟨i, q1, _⟩ := mem_pl hR hg
        have := (hR.2.2 i g q1).1
        rw [he] at this; exact this
      have hself : namedB l id = false → (l.any fun g => goes id g) = false := fun hnm => by
        rw [List.any_eq_false]
        intro g hg hgo
        have hgid : g.1 = id := by
          have := List.any_eq_false.1 hnm g hg
          rw [hgo, Bool.and_true] at this
          simpa using this
        obtain ⟨i, q1, q2⟩ := mem_pl hR hg
        refine hR.2.1 ⟨i, g, q1, i, g, q1, .one ⟨g, q1, id, (goes_iff id g).1 hgo, by rw [← hgid]; exact q2⟩, rfl⟩
      have hno : ¬ 0 ≤ pl l id → (l.any fun g => goes id g) = false := fun h => by
        rw [List.any_eq_false]
        intro g hg hgo
        exact h (hthere g hg hgo)
      by_cases hall : id = 4294967292
      · have hd : dropF l id = ([], fine) := by unfold dropF; rw [beq_iff_eq.2 hall]; rfl
        have hnn : (l.any fun g => goes id g) = false := hno fun h => by have := hnum h; omega
        have hfil : (l.filter fun g => !((g.1 == id) || (id == 4294967292))) = [] := by
          rw [List.filter_eq_nil_iff]
          intro g _
          rw [beq_iff_eq.2 hall, Bool.or_true]; simp
        have hsame : group_Same 300 [] [] = some true := (same 300 [] [] (fun g h => by cases h) (by simp) hn).trans (by rw [decide_eq_true rfl])
        have hfd : group_Find 300 [] id = some ((0, 0, []), false) := find_eq 300 [] id (by simp) (fun g h => by cases h) hn
        rw [hd, hnn, hfil]
        show (obind (group_Find 300 [] id) fun r325 => bif ((!r325.2) == true) then (bif ((!false) == true) then (obind (group_Same 300 [] []) fun r329 => bif (r329 == true) then obind (law24_awake 300) fun r330 => some r330 else some false) else some false) else some false) = _
        rw [hfd, obind_some, hsame, obind_some, awake24, obind_some]; rfl
      · have hall' : (id == 4294967292) = false := beq_eq_false_iff_ne.2 hall
        by_cases hneg : id < 0
        · have hd : dropF l id = ([], bad 1) := by unfold dropF; rw [hall', decide_eq_true hneg]; rfl
          rw [hd, decide_eq_true hneg, awake24]
          show (bif ((l.any fun g => goes id g) == false) then _ else _) = _
          cases (l.any fun g => goes id g) <;> rfl
        · by_cases hbig : id > 4294967040
          · have hd : dropF l id = ([], bad 1) := by unfold dropF; rw [hall', decide_eq_false hneg, decide_eq_true hbig]; rfl
            rw [hd, decide_eq_false hneg, decide_eq_true hbig, awake24]
            show (bif ((l.any fun g => goes id g) == false) then _ else _) = _
            cases (l.any fun g => goes id g) <;> rfl
          · cases hq : decide (pl l id ≥ 0) && namedB l id with
            | true =>
              have hd : dropF l id = ([], bad 9) := by unfold dropF; rw [hall', decide_eq_false hneg, decide_eq_false hbig, hq]; rfl
              have hnn : (l.any fun g => goes id g) = true := by
                rw [Bool.and_eq_true] at hq
                obtain ⟨g, hg, hgo⟩ := List.any_eq_true.1 hq.2
                rw [Bool.and_eq_true] at hgo
                exact List.any_eq_true.2 ⟨g, hg, hgo.2⟩
              rw [hd, hnn, awake24]; rfl
            | false =>
              have hd : dropF l id = (l.filter (fun g => !(g.1 == id)), fine) := by unfold dropF; rw [hall', decide_eq_false hneg, decide_eq_false hbig, hq]; rfl
              have hnn : (l.any fun g => goes id g) = false := by
                by_cases hp : 0 ≤ pl l id
                · refine hself ?_
                  rw [decide_eq_true (show pl l id ≥ 0 from hp), Bool.true_and] at hq
                  exact hq
                · exact hno hp
              have hfil : (l.filter fun g => !((g.1 == id) || (id == 4294967292))) = l.filter fun g => !(g.1 == id) := by rw [hall']; simp only [Bool.or_false]
              have hfl : (l.filter fun g => !(g.1 == id)).length ≤ 50 := Nat.le_trans (List.length_filter_le _ _) (by omega)
              have hfb : ∀ g ∈ l.filter (fun g => !(g.1 == id)), Bs g.2.2 := fun g hg => hG.2 g (List.mem_filter.1 hg).1
              have hfd : findF (l.filter fun g => !(g.1 == id)) id = ((0, 0, []), false) := by
                unfold findF
                rw [decide_eq_true (show pl (l.filter fun g => !(g.1 == id)) id < 0 from Int.not_le.1 fun h => by
                  obtain ⟨g, hg, he⟩ := (pl_mem _ id).1 h
                  have := (List.mem_filter.1 hg).2
                  rw [beq_iff_eq.2 he] at this
                  cases this)]; rfl
              have hfind := find_eq 300 _ id hfl hfb hn
              rw [hfd] at hfind
              have hsame := same 300 _ (l.filter fun g => !(g.1 == id)) hfb hfl hn
              rw [decide_eq_true rfl] at hsame
              rw [hd, hnn, hfil]
              show (obind (group_Find 300 (l.filter fun g => !(g.1 == id)) id) fun r325 => bif ((!r325.2) == true) then (bif ((!false) == true) then (obind (group_Same 300 (l.filter fun g => !(g.1 == id)) (l.filter fun g => !(g.1 == id))) fun r329 => bif (r329 == true) then obind (law24_awake 300) fun r330 => some r330 else some false) else some false) else some false) = _
              rw [hfind, obind_some, hsame, obind_some, awake24, obind_some]; rfl
end P24
theorem pureGroupStays : ∀ x : pdens (law24_GroupStays.τs.map PTy.data), WfP law24_GroupStays.τs x → ∃ n, law24_GroupStays.g n x = some true := fun x _ => ⟨300, P24.stays x⟩
theorem pureGroupGone : ∀ x : pdens (law24_GroupGone.τs.map PTy.data), WfP law24_GroupGone.τs x → ∃ n, law24_GroupGone.g n x = some true := fun x _ => ⟨300, P24.gone x.1 x.2⟩
theorem pureGroupEnds : ∀ x : pdens (law24_GroupEnds.τs.map PTy.data), WfP law24_GroupEnds.τs x → ∃ n, law24_GroupEnds.g n x = some true := by
  rintro ⟨l, from1, choices⟩ ⟨_, hf, ⟨_, _, hc⟩⟩
  exact ⟨300, P24.ends l from1 choices (wf_u8.1 hf) (fun c hcm => wf_u8.1 (hc c hcm))⟩
end Go.Fn
