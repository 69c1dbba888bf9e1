/- Groups (chapter 24): which groups a group comes to: by going on from each, and by a list of those to go on from. -/
import Derived.Test.YtagpigbfbhdoiaaPGroup3
set_option maxRecDepth 100000
namespace Go.Fn
open Go Go.Vi
namespace P24

def Edge (l : List Group) (i j : Nat) : Prop := ∃ g, l[i]? = some g ∧ ∃ id ∈ bnames g.2.2, pl l id = (j : Int)
inductive Reach (l : List Group) : Nat → Nat → Prop
  | one {i j : Nat} : Edge l i j → Reach l i j
  | step {i j k : Nat} : Edge l i j → Reach l j k → Reach l i k
theorem Reach.snoc {l : List Group} {i j k : Nat} (h : Reach l i j) (e : Edge l j k) : Reach l i k := by
  induction h with
  | one e1 => exact .step e1 (.one e)
  | step e1 _ ih => exact .step e1 (ih e)
theorem pl_lt {l : List Group} {id : Int} {j : Nat} (h : pl l id = (j : Int)) : ∃ g, l[j]? = some g ∧ g.1 = id := by
  obtain ⟨k, x, h1, h2, h3, _⟩ := idx_some (fun g : Group => g.1 == id) l 0 (by show 0 ≤ pl l id; omega)
  have h1 : pl l id = ((0 + k : Nat) : Int) := h1
  have : k = j := by omega
  subst this
  exact ⟨x, h2, by simpa using h3⟩
theorem pl_nat {l : List Group} {id : Int} (h : ¬ pl l id < 0) : ∃ j : Nat, pl l id = (j : Int) ∧ j < l.length := by
  obtain ⟨j, hj⟩ := Int.eq_ofNat_of_zero_le (show 0 ≤ pl l id by omega)
  obtain ⟨g, hg, _⟩ := pl_lt hj
  exact ⟨j, hj, (List.getElem?_eq_some_iff.1 hg).1⟩
theorem closed {l : List Group} {i : Nat} (Q : Nat → Prop) (h1 : ∀ k, Edge l i k → Q k) (h2 : ∀ j, Q j → ∀ k, Edge l j k → Q k) : ∀ {a b : Nat}, Reach l a b → (a = i ∨ Q a) → Q b := by
  intro a b h
  induction h with
  | one e =>
    rintro (rfl | h)
    · exact h1 _ e
    · exact h2 _ h _ e
  | step e _ ih =>
    rintro (rfl | h)
    · exact ih (.inr (h1 _ e))
    · exact ih (.inr (h2 _ h _ e))

/-! ### going on from each -/
def cnt (len : Nat) (seen : List Int) : Nat := ((List.range len).filter fun j : Nat => !seen.contains (j : Int)).length
theorem filt_le {α : Type} (p q : α → Bool) (h : ∀ x, q x = true → p x = true) : ∀ l : List α, (l.filter q).length ≤ (l.filter p).length
  | [] => Nat.le_refl _
  | x :: l => by
    have := filt_le p q h l
    rw [List.filter_cons, List.filter_cons]
    cases hq : q x with
    | true => rw [h x hq]; simp; exact this
    | false => cases p x <;> simp <;> omega
theorem filt_lt {α : Type} (p q : α → Bool) (h : ∀ x, q x = true → p x = true) (e : α) (hp : p e = true) (hq : q e = false) : ∀ l : List α, e ∈ l → (l.filter q).length < (l.filter p).length
  | x :: l, he => by
    rw [List.filter_cons, List.filter_cons]
    rcases List.mem_cons.1 he with rfl | he
    · have := filt_le p q h l
      rw [hp, hq]; simp; omega
    · have := filt_lt p q h e hp hq l he
      cases hq : q x with
      | true => rw [h x hq]; simp; omega
      | false => cases p x <;> simp <;> omega
theorem cnt_le {len : Nat} {s s' : List Int} (h : ∀ a ∈ s, a ∈ s') : cnt len s' ≤ cnt len s :=
  filt_le _ _ (fun x hx => by
    simp only [Bool.not_eq_true', List.contains_eq_mem, decide_eq_false_iff_not] at hx ⊢
    exact fun hm => hx (h _ hm)) _
theorem cnt_lt {len : Nat} {s : List Int} {j : Nat} (hj : j < len) (hn : s.contains (j : Int) = false) : cnt len (s ++ [(j : Int)]) < cnt len s :=
  filt_lt _ _ (fun x hx => by
    simp only [Bool.not_eq_true', List.contains_eq_mem, decide_eq_false_iff_not, List.mem_append, not_or] at hx ⊢
    exact hx.1) j (by rw [hn]; rfl) (by simp) _ (List.mem_range.2 hj)
def Good (l : List Group) (s : List Int) : Prop := ∀ a ∈ s, ∃ j : Nat, a = (j : Int) ∧ j < l.length
structure WPost (l : List Group) (ids : List Int) (s s' : List Int) : Prop where
  sub : ∀ a ∈ s, a ∈ s'
  good : Good l s'
  all : ∀ id ∈ ids, ∀ j : Nat, pl l id = (j : Int) → (j : Int) ∈ s'
  new : ∀ j : Nat, (j : Int) ∈ s' → (j : Int) ∈ s ∨ ∃ id ∈ ids, ∃ i : Nat, pl l id = (i : Int) ∧ (i = j ∨ Reach l i j)
  clo : ∀ j : Nat, (j : Int) ∈ s' → (j : Int) ∉ s → ∀ k, Edge l j k → (k : Int) ∈ s'
theorem walkN_spec (n : Nat) (l : List Group) (hl : l.length ≤ 50) (hn : 100 ≤ n) (rec : Int → List Int → Option (List Int)) (k : Nat)
    (hrec : ∀ (a : Nat) (g : Group) (s : List Int), l[a]? = some g → cnt l.length s < k → Good l s → ∃ s', rec a s = some s' ∧ WPost l (bnames g.2.2) s s') :
    ∀ (ids s : List Int), cnt l.length s ≤ k → Good l s → ∃ s', group_walkN rec n l ids s = some s' ∧ WPost l ids s s'
  | [], s, _, hg => ⟨s, rfl, fun _ h => h, hg, fun _ h => (by cases h), fun _ h => .inl h, fun _ h1 h2 => absurd h1 h2⟩
  | id :: ids, s, hc, hg => by
    unfold group_walkN
    rw [place n l id (by omega) (by omega), obind_some]
    by_cases h0 : pl l id < 0
    · rw [decide_eq_true h0, cond_true]
      obtain ⟨s', h1, h2⟩ := walkN_spec n l hl hn rec k hrec ids s hc hg
      refine ⟨s', h1, h2.sub, h2.good, fun i hi j hj => ?_, fun j hj => (h2.new j hj).imp (fun h => h) fun ⟨i, hi, h⟩ => ⟨i, List.mem_cons_of_mem _ hi, h⟩, h2.clo⟩
      rcases List.mem_cons.1 hi with rfl | hi
      · omega
      · exact h2.all i hi j hj
    · rw [decide_eq_false h0, cond_false]
      obtain ⟨j0, hj0, hlt⟩ := pl_nat h0
      rw [hj0]
      cases hcn : s.contains (j0 : Int) with
      | true =>
        rw [cond_true]
        obtain ⟨s', h1, h2⟩ := walkN_spec n l hl hn rec k hrec ids s hc hg
        refine ⟨s', h1, h2.sub, h2.good, fun i hi j hj => ?_, fun j hj => (h2.new j hj).imp (fun h => h) fun ⟨i, hi, h⟩ => ⟨i, List.mem_cons_of_mem _ hi, h⟩, h2.clo⟩
        rcases List.mem_cons.1 hi with rfl | hi
        · have : j = j0 := by omega
          subst this
          exact h2.sub _ (by simpa using hcn)
        · exact h2.all i hi j hj
      | false =>
        rw [cond_false]
        have hc1 := cnt_lt hlt hcn
        have hg0 : l[j0]? = some l[j0] := List.getElem?_eq_getElem hlt
        obtain ⟨s1, a1, a2⟩ := hrec j0 l[j0] (s ++ [(j0 : Int)]) hg0 (by omega) (fun a ha => by
          rcases List.mem_append.1 ha with ha | ha
          · exact hg a ha
          · exact ⟨j0, List.mem_singleton.1 ha, hlt⟩)
        have hs1 : ∀ a ∈ s, a ∈ s1 := fun a ha => a2.sub a (List.mem_append_left _ ha)
        obtain ⟨s2, b1, b2⟩ := walkN_spec n l hl hn rec k hrec ids s1 (Nat.le_trans (cnt_le hs1) hc) a2.good
        rw [a1, obind_some]
        have hj1 : (j0 : Int) ∈ s1 := a2.sub _ (List.mem_append_right _ (List.mem_singleton.2 rfl))
        refine ⟨s2, b1, fun a ha => b2.sub a (hs1 a ha), b2.good, fun i hi j hj => ?_, fun j hj => ?_, fun j hj hns m hm => ?_⟩
        · rcases List.mem_cons.1 hi with rfl | hi
          · have : j = j0 := by omega
            subst this
            exact b2.sub _ hj1
          · exact b2.all i hi j hj
        · rcases b2.new j hj with h | ⟨i, hi, h⟩
          · rcases a2.new j h with h | ⟨i, hi, m, hm, h⟩
            · rcases List.mem_append.1 h with h | h
              · exact .inl h
              · have : j = j0 := by have := List.mem_singleton.1 h; omega
                exact .inr ⟨id, List.mem_cons_self, j0, hj0, .inl this.symm⟩
            · have he : Edge l j0 m := ⟨_, hg0, i, hi, hm⟩
              refine .inr ⟨id, List.mem_cons_self, j0, hj0, .inr ?_⟩
              rcases h with rfl | h
              · exact .one he
              · exact .step he h
          · exact .inr ⟨i, List.mem_cons_of_mem _ hi, h⟩
        · by_cases h1 : (j : Int) ∈ s1
          · by_cases h2 : (j : Int) ∈ s ++ [(j0 : Int)]
            · rcases List.mem_append.1 h2 with h | h
              · exact absurd h hns
              · have : j = j0 := by have := List.mem_singleton.1 h; omega
                subst this
                obtain ⟨g, e1, i, hi, e2⟩ := hm
                rw [hg0] at e1
                cases e1
                exact b2.sub _ (a2.all i hi m e2)
            · exact b2.sub _ (a2.clo j h1 h2 m hm)
          · exact b2.clo j hj h1 m hm
theorem walk_spec (n : Nat) (l : List Group) (hl : l.length ≤ 50) (hb : ∀ g ∈ l, Bs g.2.2) (hn : 100 ≤ n) : ∀ (k a : Nat) (g : Group) (s : List Int), l[a]? = some g → cnt l.length s < k → Good l s → ∃ s', group_walk n l k a s = some s' ∧ WPost l (bnames g.2.2) s s'
  | 0, _, _, _, _, h, _ => by omega
  | k + 1, a, g, s, hg, hc, hs => by
    have hbg := hb g (List.mem_of_getElem? hg)
    unfold group_walk
    rw [inRange_of hg, cond_true, getD_of hg, names n _ hbg hn, obind_some, decide_eq_true (by have := hbg.names; omega), cond_true]
    exact walkN_spec n l hl hn _ k (walk_spec n l hl hb hn k) _ s (by omega) hs
theorem walk_all (n : Nat) (l : List Group) (hl : l.length ≤ 50) (hb : ∀ g ∈ l, Bs g.2.2) (hn : 100 ≤ n) (a : Nat) (g : Group) (hg : l[a]? = some g) : ∃ s, group_walk n l n a [] = some s ∧ Good l s ∧ ∀ j : Nat, (j : Int) ∈ s ↔ Reach l a j := by
  have hc : cnt l.length [] < n := by
    have : cnt l.length [] ≤ l.length := by
      unfold cnt; exact Nat.le_trans (List.length_filter_le _ _) (by simp)
    omega
  obtain ⟨s, h1, h2⟩ := walk_spec n l hl hb hn n a g [] hg hc (fun a ha => by cases ha)
  refine ⟨s, h1, h2.good, fun j => ⟨fun h => ?_, fun h => ?_⟩⟩
  · rcases h2.new j h with h | ⟨i, hi, m, hm, h⟩
    · cases h
    · have he : Edge l a m := ⟨g, hg, i, hi, hm⟩
      rcases h with rfl | h
      · exact .one he
      · exact .step he h
  · refine closed (i := a) (fun j => (j : Int) ∈ s) (fun k ⟨g', e1, i, hi, e2⟩ => ?_) (fun j hj k he => h2.clo j hj (by simp) k he) h (.inl rfl)
    rw [hg] at e1
    cases e1
    exact h2.all i hi k e2
def LoopP (l : List Group) : Prop := ∃ (j : Nat) (g : Group), l[j]? = some g ∧ ∃ (k : Nat) (g' : Group), l[k]? = some g' ∧ Reach l j k ∧ g'.1 = g.1
theorem loopR (n : Nat) (l : List Group) (hl : l.length ≤ 50) (hb : ∀ g ∈ l, Bs g.2.2) (hn : 100 ≤ n) : ∀ (r i : Nat), i + r = l.length → ∃ b, group_LoopR n l r i = some b ∧ (b = true ↔ ∃ (j : Nat) (g : Group), i ≤ j ∧ l[j]? = some g ∧ ∃ (k : Nat) (g' : Group), l[k]? = some g' ∧ Reach l j k ∧ g'.1 = g.1)
  | 0, i, h => ⟨false, rfl, fun h => (by cases h), fun ⟨j, g, h1, h2, _⟩ => by have := (List.getElem?_eq_some_iff.1 h2).1; omega⟩
  | r + 1, i, h => by
    have hlt : i < l.length := by omega
    have hg : l[i]? = some l[i] := List.getElem?_eq_getElem hlt
    obtain ⟨s, h1, h2, h3⟩ := walk_all n l hl hb hn i _ hg
    unfold group_LoopR
    have hgi : List.getD l i zG = l[i] := by have := getD_of (d := zG) hg; rwa [Int.toNat_natCast] at this
    have hall : s.all (fun a => inRange a l.length) = true := List.all_eq_true.2 fun a ha => by
      obtain ⟨j, rfl, hj⟩ := h2 a ha
      exact inRange_true (by omega) (by omega)
    rw [h1, obind_some, hall, cond_true, hgi]
    obtain ⟨b, e1, e2⟩ := loopR n l hl hb hn r (i + 1) (by omega)
    cases hany : s.any (fun a => decide ((List.getD l a.toNat zG).1 = l[i].1)) with
    | true =>
      refine ⟨true, rfl, fun _ => ?_, fun _ => rfl⟩
      obtain ⟨a, ha, hd⟩ := List.any_eq_true.1 hany
      obtain ⟨k, rfl, hk⟩ := h2 a ha
      have hgk : l[k]? = some l[k] := List.getElem?_eq_getElem hk
      rw [getD_of hgk] at hd
      exact ⟨i, _, Nat.le_refl i, hg, k, _, hgk, (h3 k).1 ha, of_decide_eq_true hd⟩
    | false =>
      refine ⟨b, e1, e2.trans ⟨fun ⟨j, g, q1, q2⟩ => ⟨j, g, by omega, q2⟩, fun ⟨j, g, q1, q2, k, g', q3, q4, q5⟩ => ?_⟩⟩
      by_cases hij : j = i
      · subst hij
        rw [hg] at q2
        cases q2
        have := List.any_eq_false.1 hany (k : Int) ((h3 k).2 q4)
        rw [getD_of q3] at this
        exact absurd (decide_eq_true q5) this
      · exact ⟨j, g, by omega, q2, k, g', q3, q4, q5⟩
theorem loop_spec (n : Nat) (l : List Group) (hl : l.length ≤ 50) (hb : ∀ g ∈ l, Bs g.2.2) (hn : 100 ≤ n) : ∃ b, group_Loop n l = some b ∧ (b = true ↔ LoopP l) := by
  unfold group_Loop
  rw [decide_eq_true (by omega), cond_true]
  obtain ⟨b, h1, h2⟩ := loopR n l hl hb hn l.length 0 (by omega)
  exact ⟨b, h1, h2.trans ⟨fun ⟨j, g, _, q⟩ => ⟨j, g, q⟩, fun ⟨j, g, q⟩ => ⟨j, g, Nat.zero_le _, q⟩⟩⟩
end P24
end Go.Fn
